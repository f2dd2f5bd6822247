/- The package datakitlaw19, walked: BracelexCut. Conditions: none. -/
import Derived.Test.YtmafggfonapmpaaCu5
namespace Go.Proofs.Ytmafggfonapmpaa
open Go.RowKit
set_option maxHeartbeats 1000000
set_option maxRecDepth 100000

/-- The law BracelexCut. -/
theorem CutL_any (s : ByteArray) (c : Int) (w : World) (wc : (Lit.int .u16 c).wf = true) :
    Calls Try.prog 6 #[.string s, .int .u16 c] w fun e w' => e = .returned (.bool true) ∧ Below w.heap.size w w' := by
  have hcr : 0 ≤ c ∧ c < 65536 := by
    simp [Lit.wf, IntKind.min, IntKind.max, IntKind.signed, IntKind.bits] at wc
    omega
  by_cases hs : 2000 < s.size
  · have h1 : (2000 : Int) < s.size := by omega
    go_enter Try.func6, Try.ntmps6
    go_wp2_with (go_at_call 9; refine (awake_any _).mono ?_; rintro e w1 ⟨rfl, hb1⟩)
    go_ret
    exact ⟨rfl, hb1⟩
  have h1 : ¬ (2000 : Int) < s.size := by omega
  have hm0 : 0 ≤ c % ((s.size : Int) + 1) := Int.emod_nonneg _ (by omega)
  have hm1 : c % ((s.size : Int) + 1) < (s.size : Int) + 1 := Int.emod_lt_of_pos _ (by omega)
  by_cases he : (tokR s).2.2 = 0
  case neg =>
    go_enter Try.func6, Try.ntmps6
    go_wp2_with fail
    refine (Tokens_all s _).mono ?_
    rintro e w1 ⟨v, rfl, hown, hb1⟩
    clear hown
    go_wp2_with fail
    refine (awake_any _).mono ?_
    rintro e w2 ⟨rfl, hb2⟩
    go_wp2_with fail
    go_ret
    exact ⟨rfl, hb1.trans (hb2.mono hb1.size)⟩
  have hK : (c % ((s.size : Int) + 1)).toNat ≤ s.size := by omega
  have hps : L (s.extract 0 (c % ((s.size : Int) + 1)).toNat) = (L s).take (c % ((s.size : Int) + 1)).toNat := by rw [L_extract, List.drop_zero, Nat.sub_zero]
  by_cases hlt : c % ((s.size : Int) + 1) < s.size
  case neg =>
    have hcut : cutOK (L s) (c % ((s.size : Int) + 1)).toNat := by
      intro b hb
      obtain ⟨h2, h3⟩ := List.getElem?_eq_some_iff.1 hb
      rw [L_len] at h2
      omega
    have htc := Lib.hid (tok_cut_any s _ _ hps hK he hcut)
    clear hps hcut
    go_enter Try.func6, Try.ntmps6
    go_wp2_with fail
    refine (Tokens_all s _).mono ?_
    rintro e w1 ⟨v, rfl, hown, hb1⟩
    clear hown
    go_wp2_with fail
    refine (Tokens_all _ _).mono ?_
    rintro e w2 ⟨v2, rfl, hown2, hb2⟩
    clear hown2
    have hbb : Below w.heap.size w w2 := hb1.trans (hb2.mono hb1.size)
    clear hb1 hb2
    rcases htc.out with h4 | ⟨h4, h5⟩
    · rw [h4]
      go_wp2_with fail
      refine (awake_any _).mono ?_
      rintro e w3 ⟨rfl, hb3⟩
      go_wp2_with fail
      go_ret
      exact ⟨rfl, hbb.trans (hb3.mono hbb.size)⟩
    · rw [h4, h5, Int.toNat_of_nonneg hm0]
      go_wp2_with fail
      refine (awake_any _).mono ?_
      rintro e w3 ⟨rfl, hb3⟩
      go_wp2_with fail
      go_ret
      exact ⟨rfl, hbb.trans (hb3.mono hbb.size)⟩
  have hi : (c % ((s.size : Int) + 1)).toNat < s.size := by omega
  obtain ⟨b, hb⟩ : ∃ b, s[(c % ((s.size : Int) + 1)).toNat]'hi = b := ⟨_, rfl⟩
  by_cases hbt : 128 ≤ b.toNat ∧ b.toNat < 192
  · have hb3 : ¬ (b.toNat : Int) < 128 := by omega
    have hb4 : (b.toNat : Int) < 192 := by omega
    rw [← hb] at hb3 hb4
    clear hb hps hbt
    go_enter Try.func6, Try.ntmps6
    go_wp2_with fail
    refine (Tokens_all s _).mono ?_
    rintro e w1 ⟨v, rfl, hown, hb1⟩
    clear hown
    go_wp2_with fail
    refine (awake_any _).mono ?_
    rintro e w2 ⟨rfl, hb2⟩
    go_wp2_with fail
    go_ret
    exact ⟨rfl, hb1.trans (hb2.mono hb1.size)⟩
  have hcut : cutOK (L s) (c % ((s.size : Int) + 1)).toNat := by
    intro b' hb'
    obtain ⟨h2, h3⟩ := List.getElem?_eq_some_iff.1 hb'
    have h4 : b' = b := by rw [← h3, ← hb]; exact L_get _ _ _
    rw [h4]
    omega
  have htc := Lib.hid (tok_cut_any s _ _ hps hK he hcut)
  clear hps hcut
  have hb34 : (b.toNat : Int) < 128 ∨ (192 : Int) ≤ b.toNat := by omega
  clear hbt
  rcases hb34 with hb3 | hb3
  all_goals
    try have hb4 : ¬ (b.toNat : Int) < 128 := by omega
    try rw [← hb] at hb4
    rw [← hb] at hb3
    clear hb
    go_enter Try.func6, Try.ntmps6
    go_wp2_with fail
    refine (Tokens_all s _).mono ?_
    rintro e w1 ⟨v, rfl, hown, hb1⟩
    clear hown
    go_wp2_with fail
    refine (Tokens_all _ _).mono ?_
    rintro e w2 ⟨v2, rfl, hown2, hb2⟩
    clear hown2
    have hbb : Below w.heap.size w w2 := hb1.trans (hb2.mono hb1.size)
    clear hb1 hb2
    rcases htc.out with h4 | ⟨h4, h5⟩
    · rw [h4]
      go_wp2_with fail
      refine (awake_any _).mono ?_
      rintro e w3 ⟨rfl, hb3⟩
      go_wp2_with fail
      go_ret
      exact ⟨rfl, hbb.trans (hb3.mono hbb.size)⟩
    · rw [h4, h5, Int.toNat_of_nonneg hm0]
      go_wp2_with fail
      refine (awake_any _).mono ?_
      rintro e w3 ⟨rfl, hb3⟩
      go_wp2_with fail
      go_ret
      exact ⟨rfl, hbb.trans (hb3.mono hbb.size)⟩
end Go.Proofs.Ytmafggfonapmpaa
