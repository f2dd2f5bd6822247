/- The package datakitlaw19, walked: BracelexTokens. Conditions: none. -/
import Derived.Test.YtmafggfonapmpaaL1
import Derived.Deep.DeepCutAuto
import Derived.Deep.CutBlock
import Derived.Deep.QuietTactic
import Derived.BigQuiet
namespace Go.Proofs.Ytmafggfonapmpaa
open Go.RowKit
set_option maxHeartbeats 1000000
set_option maxRecDepth 100000

theorem Tokens_all (s : ByteArray) (w : World) : Calls Try.prog 16 #[.string s] w (TokPost w (tokR s)) := by
  by_cases hbig : 1048576 < s.size
  · have h1 : ((1048576 : Int) < s.size) = True := eq_true (by omega)
    have HF : Hid (tokR s = ([], 0, 10)) := by unfold Hid tokR; rw [if_pos hbig]
    clear hbig
    go_enter Try.func16, Try.ntmps16
    go_wp2_with fail
    go_ret3
    exact TokPost_none HF.out (Below.refl _ _)
  · exact Tokens_any s w (by omega)

/-- The outer form of a row of one's own. -/
theorem own_form {w : World} {base : Nat} {e : TypeId} {size : Nat} {v : Value} {n : Nat} {xs : List Value} (h : w.ownsRow base e size v n xs) :
    n ≤ 9223372036854775807 ∧ ∃ A cap, v = .slice A n cap ∧ (0 < n → ∃ g, A = some ⟨g, 0, none⟩ ∧ base ≤ g ∧ g < w.heap.size) := by
  rcases h.2 with ⟨rfl, h0⟩ | ⟨g, cap, cur, rfl, hb, hh, hn, hc, _⟩
  · subst h0
    exact ⟨Nat.zero_le _, _, _, rfl, fun h => absurd h (by decide)⟩
  · exact ⟨by simp only [maxLen] at hc; omega, _, _, rfl, fun _ => ⟨g, rfl, hb, (h.lt g rfl).2⟩⟩
theorem flat_get {α : Type} (f : α → List Value) (c : Nat) (hf : ∀ x, (f x).length = c) : ∀ (T : List α) (i : Nat) (hi : i < T.length) (j : Nat), j < c → (T.flatMap f)[i * c + j]? = (f T[i])[j]?
  | x :: T, 0, _, j, hj => by
    rw [List.flatMap_cons, List.getElem?_append_left (by rw [hf]; omega)]
    simp
  | x :: T, i + 1, hi, j, hj => by
    rw [List.flatMap_cons, List.getElem?_append_right (by rw [hf, Nat.succ_mul]; omega), hf]
    have := flat_get f c hf T i (by simpa using hi) j hj
    rw [show (i + 1) * c + j - c = i * c + j by rw [Nat.succ_mul]; omega]
    simpa using this
theorem tk_len (x : Nat × ByteArray × Nat) : (tk x).length = 3 := rfl
/-- The cells of token i. -/
theorem tok_cells {w : World} {base g cap : Nat} {e : TypeId} {T : List (Nat × ByteArray × Nat)} (h : w.ownsRow base e 3 (.slice (some ⟨g, 0, none⟩) T.length cap) T.length (T.flatMap tk)) (i : Nat) (hi : i < T.length) :
    w.cell? ⟨g, i * 3, none⟩ = some (.int .i64 T[i].1) ∧ w.cell? ⟨g, i * 3 + 1, none⟩ = some (.string T[i].2.1) ∧ w.cell? ⟨g, i * 3 + 2, none⟩ = some (.int .i64 T[i].2.2) := by
  refine ⟨?_, ?_, ?_⟩
  · rw [World.ownsRow.cellAt h (i * 3) (by omega)]
    exact flat_get tk 3 tk_len T i hi 0 (by decide)
  · rw [World.ownsRow.cellAt h (i * 3 + 1) (by omega)]
    exact flat_get tk 3 tk_len T i hi 1 (by decide)
  · rw [World.ownsRow.cellAt h (i * 3 + 2) (by omega)]
    exact flat_get tk 3 tk_len T i hi 2 (by decide)

/-- The law BracelexTokens. -/
theorem TokensL_any (s : ByteArray) (w : World) :
    Calls Try.prog 5 #[.string s] w fun e w' => e = .returned (.bool true) ∧ Below w.heap.size w w' := by
  by_cases hs : 2000 < s.size
  · have h1 : (2000 : Int) < s.size := by omega
    by_cases hbig : 1048576 < s.size
    · have h2 : ((s.size : Int) ≤ 1048576) = False := eq_false (by omega)
      have HF : Hid (tokR s = ([], 0, 10)) := by unfold Hid tokR; rw [if_pos hbig]
      clear hbig hs
      go_enter Try.func5, Try.ntmps5
      go_wp2_with fail
      refine (Tokens_all s _).mono ?_
      rintro e w1 ⟨v, rfl, hown, hb1⟩
      rw [HF.out] at hown ⊢
      obtain ⟨_, A, cap, rfl, _⟩ := own_form hown
      clear hown HF
      go_wp2_with (go_at_call 9; refine (awake_any _).mono ?_; rintro e w2 ⟨rfl, hb2⟩)
      go_ret
      exact ⟨rfl, hb1.trans (hb2.mono hb1.size)⟩
    · have h2 : ((s.size : Int) ≤ 1048576) = True := eq_true (by omega)
      clear hbig hs
      go_enter Try.func5, Try.ntmps5
      go_wp2_with fail
      refine (Tokens_all s _).mono ?_
      rintro e w1 ⟨v, rfl, hown, hb1⟩
      obtain ⟨_, A, cap, rfl, _⟩ := own_form hown
      clear hown
      go_wp2_with (go_at_call 9; refine (awake_any _).mono ?_; rintro e w2 ⟨rfl, hb2⟩)
      go_ret
      exact ⟨rfl, hb1.trans (hb2.mono hb1.size)⟩
  have h1 : ¬ (2000 : Int) < s.size := by omega
  have hs' : s.size ≤ 100000000000 := by omega
  clear hs
  go_enter Try.func5, Try.ntmps5
  go_wp2_with fail
  refine (Tokens_all s _).mono ?_
  rintro e w1 ⟨v, rfl, hown1, hb1⟩
  obtain ⟨hTm, A1, cap1, rfl, hA1⟩ := own_form hown1
  go_wp2_with fail
  refine (Tokens3_any s _ hs').mono ?_
  rintro e w2 ⟨v, rfl, hown2, hb2⟩
  obtain ⟨_, A2, cap2, rfl, hA2⟩ := own_form hown2
  have hown1' := own_below hown1 hb2
  have hbb : Below w.heap.size w w2 := hb1.trans (hb2.mono hb1.size)
  clear hown1 hb1 hb2
  generalize (tokR s).1 = T at *
  generalize (tokR s).2.1 = n1 at *
  generalize (tokR s).2.2 = n2 at *
  have HO1 := Lib.hid hown1'; clear hown1'
  have HO2 := Lib.hid hown2; clear hown2
  have HA1 := Lib.hid hA1; clear hA1
  have HA2 := Lib.hid hA2; clear hA2
  go_wp2_with fail
  go_loopw [12] (fun n wr => ∃ k m : Nat, k ≤ T.length ∧ n = .int .i64 k ∧ wr = w2.drewN m) (fun n _ => T.length - (intOf n).toNat)
  case atStart => exact ⟨0, 0, Nat.zero_le _, rfl, rfl⟩
  case round =>
    obtain ⟨k, m, hk, rfl, rfl⟩ := hrel
    by_cases hlt : k < T.length
    · obtain ⟨g1, rfl, _, _⟩ := HA1.out (by omega)
      obtain ⟨g2, rfl, _, _⟩ := HA2.out (by omega)
      obtain ⟨c0, c1, c2⟩ := tok_cells HO1.out k hlt
      obtain ⟨d0, d1, d2⟩ := tok_cells HO2.out k hlt
      go_wp2_with fail
      go_quiet (fail)
      go_wp2_with fail
      exact ⟨⟨k + 1, _, by omega, rfl, rfl⟩, by simp [intOf]; omega⟩
    · go_wp2_with (go_at_call 9; refine (awake_any _).mono ?_; rintro e w3 ⟨rfl, hb3⟩)
      go_ret
      have hbm : Below w.heap.size w (w2.drewN m) := ⟨hbb.os, hbb.tape, hbb.output, hbb.size, hbb.block⟩
      exact ⟨rfl, hbm.trans (hb3.mono hbm.size)⟩
end Go.Proofs.Ytmafggfonapmpaa
