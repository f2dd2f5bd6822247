/- The package utf, walked: Encode; string(b) of a new block of bytes. -/
import Derived.Test.YtmafggfonapmpaaDoorUtf
namespace Go.Proofs.YtmafggfonapmpaaDoor
open Go.RowKit
set_option maxHeartbeats 1000000
set_option maxRecDepth 100000

theorem conv_new (w : World) (xs : List Int) : (convert 54 9 (.slice (some ⟨w.heap.size, 0, none⟩) xs.length xs.length)).run Tryd.prog (w.alloc (.cells (xs.map (Value.int .u8)).toArray 5)) =
    .ok (.string ⟨(xs.map fun n => UInt8.ofNat n.toNat).toArray⟩) (w.alloc (.cells (xs.map (Value.int .u8)).toArray 5)) := by
  refine run_convert_bytes_arg (P := Tryd.prog) _ 54 5 Tryd.underlying54 Tryd.underlying5 w.heap.size 0 xs.length xs.length xs rfl (fun i hi => ?_) 9 Tryd.underlying9
  have := cell_of_row (w.alloc (.cells (xs.map (Value.int .u8)).toArray 5)) w.heap.size i (xs.map (Value.int .u8)).toArray 5 (0, 0) (heap_alloc_new w _)
  rw [Nat.zero_add, this]
  simp [List.getElem?_eq_getElem hi]
theorem conv1 (w : World) (a : Int) : (convert 54 9 (.slice (some ⟨w.heap.size, 0, none⟩) 1 1)).run Tryd.prog (w.alloc (.cells #[.int .u8 a] 5)) =
    .ok (.string ⟨#[UInt8.ofNat a.toNat]⟩) (w.alloc (.cells #[.int .u8 a] 5)) := conv_new w [a]
theorem conv2 (w : World) (a b : Int) : (convert 54 9 (.slice (some ⟨w.heap.size, 0, none⟩) 2 2)).run Tryd.prog (w.alloc (.cells #[.int .u8 a, .int .u8 b] 5)) =
    .ok (.string ⟨#[UInt8.ofNat a.toNat, UInt8.ofNat b.toNat]⟩) (w.alloc (.cells #[.int .u8 a, .int .u8 b] 5)) := conv_new w [a, b]
theorem conv3 (w : World) (a b c : Int) : (convert 54 9 (.slice (some ⟨w.heap.size, 0, none⟩) 3 3)).run Tryd.prog (w.alloc (.cells #[.int .u8 a, .int .u8 b, .int .u8 c] 5)) =
    .ok (.string ⟨#[UInt8.ofNat a.toNat, UInt8.ofNat b.toNat, UInt8.ofNat c.toNat]⟩) (w.alloc (.cells #[.int .u8 a, .int .u8 b, .int .u8 c] 5)) := conv_new w [a, b, c]
theorem conv4 (w : World) (a b c d : Int) : (convert 54 9 (.slice (some ⟨w.heap.size, 0, none⟩) 4 4)).run Tryd.prog (w.alloc (.cells #[.int .u8 a, .int .u8 b, .int .u8 c, .int .u8 d] 5)) =
    .ok (.string ⟨#[UInt8.ofNat a.toNat, UInt8.ofNat b.toNat, UInt8.ofNat c.toNat, UInt8.ofNat d.toNat]⟩) (w.alloc (.cells #[.int .u8 a, .int .u8 b, .int .u8 c, .int .u8 d] 5)) := conv_new w [a, b, c, d]

theorem shape_new (w : World) (C : Array Value) (e : TypeId) : (w.alloc (.cells C e)).shape? w.heap.size = some (e, C.size) := by
  have : (w.alloc (.cells C e)).heap[w.heap.size]? = some (.cells C e) := by
    show (w.heap.push (.cells C e))[w.heap.size]? = _
    simp
  unfold World.shape?
  rw [this]
theorem freeze_new (w : World) (C : Array Value) (e : TypeId) (n : Nat) : (w.alloc (.cells C e)).freeze ⟨w.heap.size, n, none⟩ 1 = w.alloc (.cells C e (n, n + 1)) := by
  have hm : ∀ (a : Array Obj) (x : Obj) (f : Obj → Obj), (a.push x).modify a.size f = a.push (f x) := by
    intro a x f
    apply Array.ext
    · simp
    · intro i h1 h2
      simp only [Array.getElem_modify, Array.getElem_push]
      by_cases h : a.size = i
      · subst h
        simp
      · have hi : i < a.size := by simp at h1; omega
        simp [h, hi]
  unfold World.freeze
  rw [if_neg (by decide)]
  show ({ w.alloc (.cells C e) with heap := (w.heap.push (.cells C e)).modify w.heap.size _ } : World) = _
  rw [hm]
  rfl
theorem conv_mark2 (w : World) (a b : Value) : (convert 54 54 (.slice (some ⟨w.heap.size, 0, none⟩) 2 2)).run Tryd.prog (w.alloc (.cells #[a, b] 5)) =
    .ok (.slice (some ⟨w.heap.size, 0, none⟩) 2 2) (w.alloc (.cells #[a, b] 5 (2, 3))) := by
  simp [convert, run_underlying Tryd.underlying54, run_underlying Tryd.underlying5, markStringish, shape_new]
  exact freeze_new w #[a, b] 5 2

theorem ret_str_ok {l l' : List UInt8} (h : l = l') : Ending.returned (.tuple #[.string ⟨l.toArray⟩, .int .i64 0]) = Ending.returned (.tuple #[.string ⟨l'.toArray⟩, .int .i64 0]) := by rw [h]
theorem div64 (r : Nat) : (r : Int) / 64 = ((r / 64 : Nat) : Int) := by omega
theorem div4096 (r : Nat) : (r : Int) / 64 / 64 = ((r / 4096 : Nat) : Int) := by omega
theorem div262144 (r : Nat) : (r : Int) / 64 / 64 / 64 = ((r / 262144 : Nat) : Int) := by omega
theorem and960 : bits BinOp.and IntKind.i64 960 255 = 192 := by decide +kernel
theorem and480 : bits BinOp.and IntKind.i64 480 255 = 224 := by decide +kernel
theorem and240 : bits BinOp.and IntKind.i64 240 255 = 240 := by decide +kernel

theorem Encode_1 (r : Nat) (w : World) (h0 : scal r = true) (h1 : wid r = 1) (h2 : Hid (r < 128)) :
    Calls Tryd.prog 38 #[.int .i64 r] w fun e w' => e = .returned (.tuple #[.string ⟨(enc r).toArray⟩, .int .i64 0]) ∧ Below w.heap.size w w' := by
  have HW := Lib.hid h1; clear h1
  go_enter Tryd.func38, Tryd.ntmps38
  go_wp2_with fail
  refine (scalar_any _ _).mono ?_
  rintro e w' ⟨rfl, rfl⟩
  go_wp2_with fail
  refine (width_any _ _).mono ?_
  rintro e w' ⟨rfl, rfl⟩
  rw [HW.out]
  go_wp2_with (rw [conv1])
  go_ret2
  refine ⟨ret_str_ok ?_, (Below.refl _ _).alloc (Nat.le_refl _) _⟩
  exact enc1 r h2.out

theorem Encode_2 (r : Nat) (w : World) (h0 : scal r = true) (h1 : wid r = 2) (h2 : Hid (128 ≤ r ∧ r < 2048)) :
    Calls Tryd.prog 38 #[.int .i64 r] w fun e w' => e = .returned (.tuple #[.string ⟨(enc r).toArray⟩, .int .i64 0]) ∧ Below w.heap.size w w' := by
  have HW := Lib.hid h1; clear h1
  have hmk : ∀ w, (Instr.makeSlice 54 (.int .i64 2) (.int .i64 2)).run Tryd.prog w = .ok (.slice (some ⟨w.heap.size, 0, none⟩) 2 2) (w.alloc (.cells #[.int .u8 0, .int .u8 0] 5)) := fun _ => by kernel_rfl
  go_enter Tryd.func38, Tryd.ntmps38
  go_wp2_with fail
  refine (scalar_any _ _).mono ?_
  rintro e w' ⟨rfl, rfl⟩
  go_wp2_with fail
  refine (width_any _ _).mono ?_
  rintro e w' ⟨rfl, rfl⟩
  rw [HW.out]
  go_wp2_with fail
  refine wp_loop_rounds 3 ?_
  rw [rounds_succ]
  go_wp2_with fail
  rw [rounds_succ]
  go_wp2_with (rw [conv2])
  go_ret2
  refine ⟨ret_str_ok ?_, (Below.refl _ _).alloc (Nat.le_refl _) _⟩
  rw [and960, div64 r]
  exact enc2 r h2.out.1 h2.out.2

theorem Encode_3 (r : Nat) (w : World) (h0 : scal r = true) (h1 : wid r = 3) (h2 : Hid (2048 ≤ r ∧ r < 65536)) :
    Calls Tryd.prog 38 #[.int .i64 r] w fun e w' => e = .returned (.tuple #[.string ⟨(enc r).toArray⟩, .int .i64 0]) ∧ Below w.heap.size w w' := by
  have HW := Lib.hid h1; clear h1
  have hmk : ∀ w, (Instr.makeSlice 54 (.int .i64 3) (.int .i64 3)).run Tryd.prog w = .ok (.slice (some ⟨w.heap.size, 0, none⟩) 3 3) (w.alloc (.cells #[.int .u8 0, .int .u8 0, .int .u8 0] 5)) := fun _ => by kernel_rfl
  go_enter Tryd.func38, Tryd.ntmps38
  go_wp2_with fail
  refine (scalar_any _ _).mono ?_
  rintro e w' ⟨rfl, rfl⟩
  go_wp2_with fail
  refine (width_any _ _).mono ?_
  rintro e w' ⟨rfl, rfl⟩
  rw [HW.out]
  go_wp2_with fail
  refine wp_loop_rounds 4 ?_
  rw [rounds_succ]
  go_wp2_with fail
  rw [rounds_succ]
  go_wp2_with fail
  rw [rounds_succ]
  go_wp2_with (rw [conv3])
  go_ret2
  refine ⟨ret_str_ok ?_, (Below.refl _ _).alloc (Nat.le_refl _) _⟩
  rw [and480, div4096 r, div64 r]
  exact enc3 r h2.out.1 h2.out.2

theorem Encode_4 (r : Nat) (w : World) (h0 : scal r = true) (h1 : wid r = 4) (h2 : Hid (65536 ≤ r ∧ r < 2097152)) :
    Calls Tryd.prog 38 #[.int .i64 r] w fun e w' => e = .returned (.tuple #[.string ⟨(enc r).toArray⟩, .int .i64 0]) ∧ Below w.heap.size w w' := by
  have HW := Lib.hid h1; clear h1
  have hmk : ∀ w, (Instr.makeSlice 54 (.int .i64 4) (.int .i64 4)).run Tryd.prog w = .ok (.slice (some ⟨w.heap.size, 0, none⟩) 4 4) (w.alloc (.cells #[.int .u8 0, .int .u8 0, .int .u8 0, .int .u8 0] 5)) := fun _ => by kernel_rfl
  go_enter Tryd.func38, Tryd.ntmps38
  go_wp2_with fail
  refine (scalar_any _ _).mono ?_
  rintro e w' ⟨rfl, rfl⟩
  go_wp2_with fail
  refine (width_any _ _).mono ?_
  rintro e w' ⟨rfl, rfl⟩
  rw [HW.out]
  go_wp2_with fail
  refine wp_loop_rounds 5 ?_
  rw [rounds_succ]
  go_wp2_with fail
  rw [rounds_succ]
  go_wp2_with fail
  rw [rounds_succ]
  go_wp2_with fail
  rw [rounds_succ]
  go_wp2_with (rw [conv4])
  go_ret2
  refine ⟨ret_str_ok ?_, (Below.refl _ _).alloc (Nat.le_refl _) _⟩
  rw [and240, div262144 r, div4096 r, div64 r]
  exact enc4 r h2.out.1 h2.out.2

theorem Encode_any (r : Nat) (w : World) (h0 : scal r = true) :
    Calls Tryd.prog 38 #[.int .i64 r] w fun e w' => e = .returned (.tuple #[.string ⟨(enc r).toArray⟩, .int .i64 0]) ∧ Below w.heap.size w w' := by
  rcases wid_cases r h0 with ⟨h, g⟩ | ⟨h, g⟩ | ⟨h, g⟩ | ⟨h, g⟩
  · exact Encode_1 r w h0 h g
  · exact Encode_2 r w h0 h g
  · exact Encode_3 r w h0 h g
  · exact Encode_4 r w h0 h g

theorem Encode_no (r : Nat) (w : World) (h0 : scal r = false) :
    Calls Tryd.prog 38 #[.int .i64 r] w fun e w' => e = .returned (.tuple #[.string ⟨([] : List UInt8).toArray⟩, .int .i64 2]) ∧ Below w.heap.size w w' := by
  go_enter Tryd.func38, Tryd.ntmps38
  go_wp2_with fail
  refine (scalar_any _ _).mono ?_
  rintro e w' ⟨rfl, rfl⟩
  go_wp2_with fail
  go_ret2
  exact ⟨rfl, Below.refl _ _⟩
end Go.Proofs.YtmafggfonapmpaaDoor
