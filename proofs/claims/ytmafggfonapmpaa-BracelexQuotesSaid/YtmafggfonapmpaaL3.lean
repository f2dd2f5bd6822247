/- The package datakitlaw19, walked: BracelexQuotes. Conditions: none. -/
import Derived.Test.YtmafggfonapmpaaQu2
namespace Go.Proofs.Ytmafggfonapmpaa
open Go.RowKit
set_option maxHeartbeats 1000000
set_option maxRecDepth 100000

/-- The law BracelexQuotes. -/
theorem QuotesL_any (s t : ByteArray) (w : World) :
    Calls Try.prog 4 #[.string s, .string t] w fun e w' => e = .returned (.bool true) ∧ Below w.heap.size w w' := by
  by_cases hs : 2000 < s.size
  · have h1 : (2000 : Int) < s.size := by omega
    go_enter Try.func4, Try.ntmps4
    go_wp2_with (go_at_call 9; refine (awake_any _).mono ?_; rintro e w1 ⟨rfl, hb1⟩)
    go_ret
    exact ⟨rfl, hb1⟩
  have h1 : ¬ (2000 : Int) < s.size := by omega
  by_cases ht : 2000 < t.size
  · have h2 : (2000 : Int) < t.size := by omega
    go_enter Try.func4, Try.ntmps4
    go_wp2_with (go_at_call 9; refine (awake_any _).mono ?_; rintro e w1 ⟨rfl, hb1⟩)
    go_ret
    exact ⟨rfl, hb1⟩
  have h2 : ¬ (2000 : Int) < t.size := by omega
  have hs' : s.size ≤ 1000000000 := by omega
  have ht' : t.size ≤ 100000000000 := by omega
  clear hs ht
  go_enter Try.func4, Try.ntmps4
  go_wp2_with fail
  refine (Quote_any s _ hs').mono ?_
  rintro e w1 ⟨rfl, hb1⟩
  go_wp2_with fail
  refine (Quote3_any s _ hs').mono ?_
  rintro e w2 ⟨rfl, hb2⟩
  have hb12 : Below w.heap.size w w2 := hb1.trans (hb2.mono hb1.size)
  clear hb1 hb2
  generalize (quoR (L s)).1.toArray = q1 at *
  generalize (quoR (L s)).2 = q2 at *
  go_wp2_with fail
  refine (Unquote_any t _ ht').mono ?_
  rintro e w3 ⟨rfl, hb3⟩
  have hb13 : Below w.heap.size w w3 := hb12.trans (hb3.mono hb12.size)
  clear hb12 hb3
  go_wp2_with fail
  refine (Unquote3_any t _ ht').mono ?_
  rintro e w4 ⟨rfl, hb4⟩
  have hb14 : Below w.heap.size w w4 := hb13.trans (hb4.mono hb13.size)
  clear hb13 hb4
  generalize (unqL (L t)).1.toArray = u1 at *
  generalize (unqL (L t)).2 = u2 at *
  go_wp2_with fail
  refine (awake_any _).mono ?_
  rintro e w5 ⟨rfl, hb5⟩
  go_wp2_with fail
  go_ret
  exact ⟨rfl, hb14.trans (hb5.mono hb14.size)⟩
end Go.Proofs.Ytmafggfonapmpaa
