/- The law IndentlexBack walked. Conditions: the tables of unicode/utf8 as they are, a value of internal/bytealg.MaxLen. -/
import Derived.Test.YtlnpfpjncnkekaaGreatDoorZt30
import Derived.Test.YtlnpfpjncnkekaaGreatDoorZt15
namespace Go.Proofs.YtlnpfpjncnkekaaGreatDoor
open Go.RowKit
set_option maxHeartbeats 4000000
set_option maxRecDepth 100000

theorem QuoteI_any (s : ByteArray) (w : World) (hs : s.size ≤ 1000000000) :
    Calls Tryz.prog 19 #[.string s] w fun e w' => e = .returned (.tuple #[.string ⟨(quoR (L s)).1.toArray⟩, .int .i64 (quoR (L s)).2]) ∧ Below w.heap.size w w' := by
  have HQ := Lib.hid (fun w' => Quote_any s w' hs)
  generalize quoR (L s) = q at *
  obtain ⟨x, e⟩ := q
  dsimp only at HQ
  go_enter Tryz.func19, Tryz.ntmps19
  go_wp2_with (go_at_call 53; refine (HQ.out _).mono ?_; rintro e w2 ⟨rfl, hb2⟩; have HB := Lib.hid hb2; clear hb2)
  go_ret2
  exact ⟨rfl, HB.out⟩
end Go.Proofs.YtlnpfpjncnkekaaGreatDoor

namespace Go.Proofs.YtlnpfpjncnkekaaGreatDoor
open Go.RowKit
set_option maxHeartbeats 4000000
set_option maxRecDepth 100000

theorem simp_first (s : ByteArray) (h : simpB (L s) = true) : ∃ hp : 0 < s.size, s[0].toNat ≠ 34 ∧ s[0].toNat ≠ 39 ∧ pre (L s) [33, 98, 32] = false ∧ L s ≠ [33, 98] := by
  obtain ⟨h1, -, -, -, -, h6⟩ := simp_parts _ h
  have hp := size_pos h1
  have hm : s[0] ∈ L s := by
    have := L_drop s 0 hp
    rw [List.drop_zero] at this
    rw [this]
    exact List.mem_cons_self ..
  have hb := ok_byte _ (h6 _ hm)
  have hd := L_drop s 0 hp
  rw [List.drop_zero] at hd
  refine ⟨hp, hb.2.2.1, hb.2.2.2.1, ?_, ?_⟩
  · cases hx : pre (L s) [33, 98, 32]
    · rfl
    · unfold pre at hx
      rw [beq_iff_eq, hd] at hx
      injection hx with hy _
      exact absurd (by rw [hy]; rfl) hb.2.2.2.2.2.2
  · intro hx
    rw [hd] at hx
    injection hx with hy _
    exact absurd (by rw [hy]; rfl) hb.2.2.2.2.2.2
theorem pl_parts (s : ByteArray) (h : plS s = true) : simpB (L s) = true ∧ ¬ wordS (L s) ∧ numB (L s) = false ∧ timB s = false := by
  unfold plS wordI at h
  simp only [Bool.and_eq_true, Bool.not_eq_true', Bool.or_eq_false_iff, decide_eq_false_iff_not] at h
  obtain ⟨⟨⟨h1, ⟨h2, h3⟩, h4⟩, h5⟩, h6⟩ := h
  refine ⟨h1, ?_, h5, h6⟩
  rintro (hx | hx | hx | hx | hx)
  · exact (simp_parts _ h1).1 hx
  · exact h2 hx
  · exact h3 hx
  · exact h4 hx
  · exact (simp_first s h1).2.2.2.2 hx
end Go.Proofs.YtlnpfpjncnkekaaGreatDoor
