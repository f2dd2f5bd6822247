/- The package utf, walked: Encode; string(b) of a new block of bytes. -/
import Derived.Test.YthdninnjjmhpfaaGreatDoorStr
import Derived.WalkSpells
import Derived.WalkLawsBesides
namespace Go.Proofs.YthdninnjjmhpfaaGreatDoor
open Go.RowKit
set_option maxHeartbeats 1000000
set_option maxRecDepth 100000

theorem conv_new (w : World) (xs : List Int) : (convert 26 9 (.slice (some ⟨w.heap.size, 0, none⟩) xs.length xs.length)).run Tryz.prog (w.alloc (.cells (xs.map (Value.int .u8)).toArray 5)) =
    .ok (.string ⟨(xs.map fun n => UInt8.ofNat n.toNat).toArray⟩) (w.alloc (.cells (xs.map (Value.int .u8)).toArray 5)) := by
  refine run_convert_bytes_arg (P := Tryz.prog) _ 26 5 Tryz.underlying26 Tryz.underlying5 w.heap.size 0 xs.length xs.length xs rfl (fun i hi => ?_) 9 Tryz.underlying9
  have := cell_of_row (w.alloc (.cells (xs.map (Value.int .u8)).toArray 5)) w.heap.size i (xs.map (Value.int .u8)).toArray 5 (0, 0) (heap_alloc_new w _)
  rw [Nat.zero_add, this]
  simp [List.getElem?_eq_getElem hi]
theorem conv1 (w : World) (a : Int) : (convert 26 9 (.slice (some ⟨w.heap.size, 0, none⟩) 1 1)).run Tryz.prog (w.alloc (.cells #[.int .u8 a] 5)) =
    .ok (.string ⟨#[UInt8.ofNat a.toNat]⟩) (w.alloc (.cells #[.int .u8 a] 5)) := conv_new w [a]
theorem conv2 (w : World) (a b : Int) : (convert 26 9 (.slice (some ⟨w.heap.size, 0, none⟩) 2 2)).run Tryz.prog (w.alloc (.cells #[.int .u8 a, .int .u8 b] 5)) =
    .ok (.string ⟨#[UInt8.ofNat a.toNat, UInt8.ofNat b.toNat]⟩) (w.alloc (.cells #[.int .u8 a, .int .u8 b] 5)) := conv_new w [a, b]
theorem conv3 (w : World) (a b c : Int) : (convert 26 9 (.slice (some ⟨w.heap.size, 0, none⟩) 3 3)).run Tryz.prog (w.alloc (.cells #[.int .u8 a, .int .u8 b, .int .u8 c] 5)) =
    .ok (.string ⟨#[UInt8.ofNat a.toNat, UInt8.ofNat b.toNat, UInt8.ofNat c.toNat]⟩) (w.alloc (.cells #[.int .u8 a, .int .u8 b, .int .u8 c] 5)) := conv_new w [a, b, c]
theorem conv4 (w : World) (a b c d : Int) : (convert 26 9 (.slice (some ⟨w.heap.size, 0, none⟩) 4 4)).run Tryz.prog (w.alloc (.cells #[.int .u8 a, .int .u8 b, .int .u8 c, .int .u8 d] 5)) =
    .ok (.string ⟨#[UInt8.ofNat a.toNat, UInt8.ofNat b.toNat, UInt8.ofNat c.toNat, UInt8.ofNat d.toNat]⟩) (w.alloc (.cells #[.int .u8 a, .int .u8 b, .int .u8 c, .int .u8 d] 5)) := conv_new w [a, b, c, d]

theorem shape_new (w : World) (C : Array Value) (e : TypeId) : (w.alloc (.cells C e)).shape? w.heap.size = some (e, C.size) := by
  have : (w.alloc (.cells C e)).heap[w.heap.size]? = some (.cells C e) := by
    show (w.heap.push (.cells C e))[w.heap.size]? = _
    simp
  unfold World.shape?
  rw [this]
theorem freeze_new (w : World) (C : Array Value) (e : TypeId) (n : Nat) : (w.alloc (.cells C e)).freeze ⟨w.heap.size, n, none⟩ 1 = w.alloc (.cells C e (n, n + 1)) := by
  have hm : ∀ (a : Array Obj) (x : Obj) (f : Obj → Obj), (a.push x).modify a.size f = a.push (f x) := by
    intro a x f
    apply Array.ext
    · simp
    · intro i h1 h2
      simp only [Array.getElem_modify, Array.getElem_push]
      by_cases h : a.size = i
      · subst h
        simp
      · have hi : i < a.size := by simp at h1; omega
        simp [h, hi]
  unfold World.freeze
  rw [if_neg (by decide)]
  show ({ w.alloc (.cells C e) with heap := (w.heap.push (.cells C e)).modify w.heap.size _ } : World) = _
  rw [hm]
  rfl
theorem conv_mark2 (w : World) (a b : Value) : (convert 26 26 (.slice (some ⟨w.heap.size, 0, none⟩) 2 2)).run Tryz.prog (w.alloc (.cells #[a, b] 5)) =
    .ok (.slice (some ⟨w.heap.size, 0, none⟩) 2 2) (w.alloc (.cells #[a, b] 5 (2, 3))) := by
  simp [convert, run_underlying Tryz.underlying26, run_underlying Tryz.underlying5, markStringish, shape_new]
  exact freeze_new w #[a, b] 5 2

theorem ret_str_ok {l l' : List UInt8} (h : l = l') : Ending.returned (.tuple #[.string ⟨l.toArray⟩, .int .i64 0]) = Ending.returned (.tuple #[.string ⟨l'.toArray⟩, .int .i64 0]) := by rw [h]
theorem div64 (r : Nat) : (r : Int) / 64 = ((r / 64 : Nat) : Int) := by omega
theorem div4096 (r : Nat) : (r : Int) / 64 / 64 = ((r / 4096 : Nat) : Int) := by omega
theorem div262144 (r : Nat) : (r : Int) / 64 / 64 / 64 = ((r / 262144 : Nat) : Int) := by omega
theorem and960 : bits BinOp.and IntKind.i64 960 255 = 192 := by decide +kernel
theorem and480 : bits BinOp.and IntKind.i64 480 255 = 224 := by decide +kernel
theorem and240 : bits BinOp.and IntKind.i64 240 255 = 240 := by decide +kernel
end Go.Proofs.YthdninnjjmhpfaaGreatDoor
