/- decimal.FromInt, value.Int walked, from 0 to 10^15. Conditions: none. -/
import Derived.Test.YtemiihkmpojpgaaGreatDoorZq17
import Derived.Test.YtemiihkmpojpgaaGreatDoorZq22
namespace Go.Proofs.YtemiihkmpojpgaaGreatDoor
open Go.RowKit
set_option maxHeartbeats 4000000
set_option maxRecDepth 100000

theorem digQ_step (n : Nat) (h : 0 < n) (acc : List UInt8) : acc ++ digQ n = (acc ++ [UInt8.ofNat (48 + n % 10)]) ++ digQ (n / 10) := by
  rw [digQ_pos n h, List.append_assoc]
  rfl
theorem RevAt.rdb {w w' : World} {g cap : Nat} {l : List UInt8} (h : RevAt w w' g l l.length) (hc : l.length ≤ cap) (hm : cap ≤ maxLen) (hl : l.length ≤ 100) : RdB w' (.slice (some ⟨g, 0, none⟩) l.length cap) l.reverse := by
  obtain ⟨_, hg, cur, hx, hcu⟩ := h
  refine ⟨_, cap, by rw [List.length_reverse], by rw [List.length_reverse]; exact hc, ⟨by rw [List.length_reverse]; omega, hm⟩, (fun h => by cases h), fun _ => ⟨g, 0, rfl, hg, fun i hi j hj => ?_⟩⟩
  rw [List.length_reverse] at hi
  obtain rfl : j = 0 := by omega
  rw [Nat.zero_add, Nat.mul_one, Nat.add_zero, cell_of_row w' g i _ _ (0, 0) hx, hcu i hi, if_pos (.inl hi)]
  simp only [List.getElem?_cons_zero]
  rw [List.getD_eq_getElem?_getD, List.getD_eq_getElem?_getD, List.getElem?_reverse hi]
end Go.Proofs.YtemiihkmpojpgaaGreatDoor

namespace Go.Proofs.YtemiihkmpojpgaaGreatDoor
open Go.RowKit
set_option maxHeartbeats 4000000
set_option maxRecDepth 100000

theorem zl_app {a : List UInt8} (h : zl a = a) (hn : a ≠ []) (b : List UInt8) : zl (a ++ b) = a ++ b := by
  rcases a with _ | ⟨c, t⟩
  · exact absurd rfl hn
  · have hc : c.toNat ≠ 48 := by
      intro hc
      have h2 : zl (c :: t) = zl t := by show (if _ then _ else _) = _; rw [if_pos hc]
      rw [h2] at h
      have h3 := zl_le t
      rw [h, List.length_cons] at h3
      omega
    show (if _ then _ else _) = _
    rw [if_neg hc]
    rfl
theorem zl_numL : ∀ (k n : Nat), n < 10 ^ k → zl (numL n) = numL n
  | 0, n, h => by
    have : n = 0 := by simpa using h
    subst this
    unfold numL
    rw [digQ_zero]
    rfl
  | k + 1, n, h => by
    rcases Nat.eq_zero_or_pos n with rfl | hp
    · unfold numL; rw [digQ_zero]; rfl
    · rw [numL_pos n hp]
      by_cases h0 : n / 10 = 0
      · have hd : (UInt8.ofNat (48 + n % 10)).toNat = 48 + n % 10 := by simp; omega
        have e : numL (n / 10) = [] := by rw [h0]; unfold numL; rw [digQ_zero]; rfl
        rw [e, List.nil_append]
        show (if _ then _ else _) = _
        rw [if_neg (by rw [hd]; omega)]
      · refine zl_app (zl_numL k (n / 10) (by rw [Nat.pow_succ] at h; omega)) ?_ _
        rw [numL_pos (n / 10) (by omega)]
        simp
theorem normL_num (n : Nat) (hn : n < 1000000000000000) : normL false (numL n) 0 = normS false (numL n) 0 := by
  unfold normL
  rw [zl_numL 15 n hn]
end Go.Proofs.YtemiihkmpojpgaaGreatDoor
