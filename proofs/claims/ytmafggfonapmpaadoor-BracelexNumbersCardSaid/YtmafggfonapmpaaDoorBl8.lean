/- The package bracelex, walked: invalid, Unquote. Conditions: strings of at most 10^11 bytes. -/
import Derived.Test.YtmafggfonapmpaaDoorBl7
import Derived.Test.YtmafggfonapmpaaDoorU8
namespace Go.Proofs.YtmafggfonapmpaaDoor
open Go.RowKit
set_option maxHeartbeats 1000000
set_option maxRecDepth 100000

theorem badL_le (l : List UInt8) : badL l ≤ l.length := bad_le _ _
/-- What invalid hands back. -/
def invR (l : List UInt8) : Int := if badL l = l.length then -1 else badL l
theorem below_iter (w : World) (s : ByteArray) (p : Nat) : Below w.heap.size w (w.iter s p) := (Below.refl _ _).alloc (Nat.le_refl _) _
/-- What Unquote hands back. -/
def unqL : List UInt8 → List UInt8 × Nat
  | [] => ([], 4)
  | b :: t => if b.toNat ≠ 34 then ([], 3) else if (quotR t).2.2 ≠ 0 then ([], (quotR t).2.2) else if (quotR t).2.1 < t.length + 1 then ([], 3) else ((quotR t).1, 0)
theorem ret2_str {l : List UInt8} {a : Nat} {x : List UInt8 × Nat} (h : x = (l, a)) : Ending.returned (.tuple #[.string ⟨l.toArray⟩, .int .i64 a]) = Ending.returned (.tuple #[.string ⟨x.1.toArray⟩, .int .i64 x.2]) := by rw [h]
theorem Unquote_any (s : ByteArray) (w : World) (hs : s.size ≤ 100000000000) :
    Calls Tryd.prog 10 #[.string s] w fun e w' => e = .returned (.tuple #[.string ⟨(unqL (L s)).1.toArray⟩, .int .i64 (unqL (L s)).2]) ∧ Below w.heap.size w w' := by
  by_cases he : L s = []
  · have he1 : s.toList.isEmpty = true := by rw [empty_L]; simpa using he
    have HF : Hid (unqL (L s) = ([], 4)) := by unfold Hid; rw [he]; rfl
    clear he
    go_enter Tryd.func10, Tryd.ntmps10
    go_wp2_with fail
    go_ret2
    exact ⟨ret2_str HF.out, Below.refl _ _⟩
  have he1 : s.toList.isEmpty = false := by rw [empty_L]; simpa using he
  have hp := size_pos he
  have hX : Hid (unqL (L s) = if s[0].toNat ≠ 34 then ([], 3) else if (quotR ((L s).drop 1)).2.2 ≠ 0 then ([], (quotR ((L s).drop 1)).2.2) else if (quotR ((L s).drop 1)).2.1 < s.size then ([], 3) else ((quotR ((L s).drop 1)).1, 0)) := by
    unfold Hid
    rw [L_cons0 s hp, unqL, show ((L s).drop 1).length + 1 = s.size by rw [List.length_drop, L_len]; omega]
    rfl
  clear he
  by_cases h34 : s[0].toNat = 34
  case neg =>
    have g : ((s[0].toNat : Int) != 34) = true := by rw [bne_iff_ne]; omega
    have HF : Hid (unqL (L s) = ([], 3)) := by unfold Hid; rw [hX.out, if_pos h34]
    clear hX h34
    go_enter Tryd.func10, Tryd.ntmps10
    go_wp2_with fail
    go_ret2
    exact ⟨ret2_str HF.out, Below.refl _ _⟩
  have g : ((s[0].toNat : Int) != 34) = false := by rw [bne_eq_false_iff_eq]; omega
  have hY : Hid (unqL (L s) = if (quotR ((L s).drop 1)).2.2 ≠ 0 then ([], (quotR ((L s).drop 1)).2.2) else if (quotR ((L s).drop 1)).2.1 < s.size then ([], 3) else ((quotR ((L s).drop 1)).1, 0)) := by
    unfold Hid; rw [hX.out, if_neg (by simpa using h34)]
  clear hX h34
  go_enter Tryd.func10, Tryd.ntmps10
  go_wp2_with fail
  refine (quoted_any s _ hp hs).mono ?_
  rintro e w1 ⟨rfl, hb⟩
  generalize (quotR ((L s).drop 1)).1 = t at *
  generalize (quotR ((L s).drop 1)).2.1 = n at *
  generalize (quotR ((L s).drop 1)).2.2 = er at *
  by_cases hz : er = 0
  case neg =>
    have e1 : ((er : Int) != 0) = true := by rw [bne_iff_ne]; omega
    have HF : Hid (unqL (L s) = ([], er)) := by unfold Hid; rw [hY.out, if_pos hz]
    clear hY hz
    go_wp2_with fail
    go_ret2
    exact ⟨ret2_str HF.out, hb⟩
  subst hz
  by_cases hn : n < s.size
  · have hn' : (n : Int) < s.size := by omega
    have HF : Hid (unqL (L s) = ([], 3)) := by unfold Hid; rw [hY.out, if_neg (by simp), if_pos hn]
    clear hY hn
    go_wp2_with fail
    go_ret2
    exact ⟨ret2_str HF.out, hb⟩
  · have hn' : ¬ (n : Int) < s.size := by omega
    have HF : Hid (unqL (L s) = (t, 0)) := by unfold Hid; rw [hY.out, if_neg (by simp), if_neg hn]
    clear hY hn
    go_wp2_with fail
    go_ret2
    exact ⟨ret2_str HF.out, hb⟩
end Go.Proofs.YtmafggfonapmpaaDoor
