/- The package datakitlaw19, walked: BracelexBack. Conditions: none. -/
import Derived.Test.YtmafggfonapmpaaBk1
import Derived.Test.YtmafggfonapmpaaQu2
namespace Go.Proofs.Ytmafggfonapmpaa
open Go.RowKit
set_option maxHeartbeats 1000000
set_option maxRecDepth 100000

/-- The law BracelexBack. -/
theorem BackL_any (s : ByteArray) (w : World) :
    Calls Try.prog 7 #[.string s] w fun e w' => e = .returned (.bool true) ∧ Below w.heap.size w w' := by
  by_cases hs : 2000 < s.size
  · have h1 : (2000 : Int) < s.size := by omega
    go_enter Try.func7, Try.ntmps7
    go_wp2_with (go_at_call 9; refine (awake_any _).mono ?_; rintro e w1 ⟨rfl, hb1⟩)
    go_ret
    exact ⟨rfl, hb1⟩
  have h1 : ¬ (2000 : Int) < s.size := by omega
  have hs' : s.size ≤ 1000000000 := by omega
  by_cases hv : badL (L s) = (L s).length
  case neg =>
    have HF : Hid (quoR (L s) = ([], 5)) := by unfold Hid quoR; rw [if_neg hv]
    clear hs hv
    go_enter Try.func7, Try.ntmps7
    go_wp2_with fail
    refine (Quote_any s _ hs').mono ?_
    rintro e w1 ⟨rfl, hb1⟩
    rw [HF.out]
    go_wp2_with (go_at_call 9; refine (awake_any _).mono ?_; rintro e w2 ⟨rfl, hb2⟩)
    go_ret
    exact ⟨rfl, hb1.trans (hb2.mono hb1.size)⟩
  obtain ⟨q, hq⟩ : ∃ q : ByteArray, q = ⟨(quoR (L s)).1.toArray⟩ := ⟨_, rfl⟩
  have hLq : L q = (quoR (L s)).1 := by rw [hq]; rfl
  have HE : Hid ((quoR (L s)).2 = 0) := by unfold Hid quoR; rw [if_pos hv]
  have HT := Lib.hid (tok_back s q (by omega) hv hLq)
  have hlen := quo_len (L s)
  rw [← hLq, L_len, L_len] at hlen
  have hq11 : q.size ≤ 100000000000 := by omega
  have HU : Hid (unqL (L q) = (L s, 0)) := by unfold Hid; rw [hLq]; exact unq_back _ hv
  have HQ := Lib.hid hq
  clear hq hLq hs hv hlen
  go_enter Try.func7, Try.ntmps7
  go_wp2_with fail
  refine (Quote_any s _ hs').mono ?_
  rintro e w1 ⟨rfl, hb1⟩
  rw [HE.out, ← HQ.out]
  clear HE HQ
  go_wp2_with fail
  refine (Unquote_any q _ hq11).mono ?_
  rintro e w2 ⟨rfl, hb2⟩
  rw [HU.out]
  have hb12 : Below w.heap.size w w2 := hb1.trans (hb2.mono hb1.size)
  clear hb1 hb2 HU
  rw [show (⟨(L s, 0).1.toArray⟩ : ByteArray) = s from rfl]
  go_wp2_with fail
  refine (Tokens_all q _).mono ?_
  rintro e w3 ⟨v, rfl, hown, hb3⟩
  rw [HT.out] at hown ⊢
  have hb13 : Below w.heap.size w w3 := hb12.trans (hb3.mono hb12.size)
  obtain ⟨_, A, cap, rfl, hA⟩ := own_form hown
  obtain ⟨g, rfl, _, _⟩ := hA (by simp)
  obtain ⟨c0, c1, _⟩ := tok_cells hown 0 (by simp)
  simp only [Nat.zero_mul, Nat.zero_add, List.getElem_cons_zero] at c0 c1
  clear hown hb12 hb3 hA HT
  go_wp2_with fail
  refine (awake_any _).mono ?_
  rintro e w4 ⟨rfl, hb4⟩
  go_wp2_with fail
  go_ret
  exact ⟨rfl, hb13.trans (hb4.mono hb13.size)⟩
end Go.Proofs.Ytmafggfonapmpaa
