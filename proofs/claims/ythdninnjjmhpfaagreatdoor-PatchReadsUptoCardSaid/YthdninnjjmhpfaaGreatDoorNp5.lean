/- decimal.FromInt, value.Int walked, from 0 to 10^15. Conditions: none. -/
import Derived.Test.YthdninnjjmhpfaaGreatDoorNp4
namespace Go.Proofs.YthdninnjjmhpfaaGreatDoor
open Go.RowKit
set_option maxHeartbeats 4000000
set_option maxRecDepth 100000

theorem zl_app {a : List UInt8} (h : zl a = a) (hn : a ≠ []) (b : List UInt8) : zl (a ++ b) = a ++ b := by
  rcases a with _ | ⟨c, t⟩
  · exact absurd rfl hn
  · have hc : c.toNat ≠ 48 := by
      intro hc
      have h2 : zl (c :: t) = zl t := by show (if _ then _ else _) = _; rw [if_pos hc]
      rw [h2] at h
      have h3 := zl_le t
      rw [h, List.length_cons] at h3
      omega
    show (if _ then _ else _) = _
    rw [if_neg hc]
    rfl
theorem zl_numL : ∀ (k n : Nat), n < 10 ^ k → zl (numL n) = numL n
  | 0, n, h => by
    have : n = 0 := by simpa using h
    subst this
    unfold numL
    rw [digQ_zero]
    rfl
  | k + 1, n, h => by
    rcases Nat.eq_zero_or_pos n with rfl | hp
    · unfold numL; rw [digQ_zero]; rfl
    · rw [numL_pos n hp]
      by_cases h0 : n / 10 = 0
      · have hd : (UInt8.ofNat (48 + n % 10)).toNat = 48 + n % 10 := by simp; omega
        have e : numL (n / 10) = [] := by rw [h0]; unfold numL; rw [digQ_zero]; rfl
        rw [e, List.nil_append]
        show (if _ then _ else _) = _
        rw [if_neg (by rw [hd]; omega)]
      · refine zl_app (zl_numL k (n / 10) (by rw [Nat.pow_succ] at h; omega)) ?_ _
        rw [numL_pos (n / 10) (by omega)]
        simp
theorem normL_num (n : Nat) (hn : n < 1000000000000000) : normL false (numL n) 0 = normS false (numL n) 0 := by
  unfold normL
  rw [zl_numL 15 n hn]
theorem decFromInt_any (n : Nat) (w : World) (hn : n < 1000000000000000) :
    Calls Tryz.prog 80 #[.int .i64 n] w (DecOne w (normL false (numL n) 0)) := by
  have HF := Lib.hid (fun w => dFromInt_any n w hn)
  have hl : (numL n).length ≤ 15 := by unfold numL; rw [List.length_reverse]; exact digQ_len 15 n hn
  have HNM := Lib.hid (fun w => norm_any false ⟨(numL n).toArray⟩ 0 w (by show (numL n).toArray.size ≤ _; simp; omega) (by decide) (by decide))
  rw [show L ⟨(numL n).toArray⟩ = numL n from rfl, ← normL_num n hn] at HNM
  generalize normL false (numL n) 0 = r at *
  obtain ⟨rn, rs, re, rr⟩ := r
  generalize (⟨(numL n).toArray⟩ : ByteArray) = t at *
  have h0 : ¬ (n : Int) < 0 := by omega
  clear hl
  go_enter Tryz.func80, Tryz.ntmps80
  go_wp2_with fail
  refine (HF.out _).mono ?_
  rintro e w1 ⟨rfl, hb1⟩
  have HX1 := Lib.hid ((hb1.block w.heap.size (by simp)).trans (heap_alloc_new w _))
  have HB1 := Lib.hid (((Below.refl _ w).alloc (Nat.le_refl _) _).trans (hb1.mono (by simp)))
  have HZ1 : Hid (w.heap.size < w1.heap.size) := by unfold Hid; have := hb1.size; simp at this; omega
  clear hb1
  go_wp2_with fail
  refine (HNM.out _).mono ?_
  rintro e w2 ⟨rfl, hb2⟩
  have HX2 := Lib.hid ((hb2.block w.heap.size HZ1.out).trans HX1.out)
  have HB2 := Lib.hid (HB1.out.trans (hb2.mono HB1.out.size))
  have HZ2 : Hid (w.heap.size < w2.heap.size) := Nat.lt_of_lt_of_le HZ1.out hb2.size
  obtain ⟨⟨y0, y1, y2⟩, yf⟩ := box3 HX2.out
  have hz := HZ2.out
  clear hb2 HX1 HB1 HZ1
  go_wp2_with fail
  refine bodyPost_ret (v := .agg #[.bool rn, .string ⟨rs.toArray⟩, .int .i64 re]) (by simp [results, Tryz.results80, go_sem, y0, y1, y2, hz]) rfl ⟨rfl, ?_⟩
  refine Below.alloc ?_ (by have := HB2.out.size; simp; omega) _
  repeat refine Below.setCell ?_ (by dsimp only; omega) _
  exact HB2.out
theorem VInt_any (n : Nat) (w : World) (hn : n < 1000000000000000) (r : DecR) (hr : r = normL false (numL n) 0) :
    Calls Tryz.prog 37 #[.int .i64 n] w (LeafPost w (hdN r.neg ⟨r.ds.toArray⟩ r.e)) := by
  have HF := Lib.hid (fun w => decFromInt_any n w hn)
  rw [← hr] at HF
  clear hr
  obtain ⟨rn, rs, re, rr⟩ := r
  go_enter Tryz.func37, Tryz.ntmps37
  go_wp2_with fail
  refine (HF.out _).mono ?_
  rintro e w1 ⟨rfl, hb1⟩
  have HX1 := Lib.hid ((hb1.block w.heap.size (by simp)).trans (heap_alloc_new w _))
  have HB1 := Lib.hid (((Below.refl _ w).alloc (Nat.le_refl _) _).trans (hb1.mono (by simp)))
  have HZ1 : Hid (w.heap.size < w1.heap.size) := by unfold Hid; have := hb1.size; simp at this; omega
  clear hb1
  go_wp2_with fail
  refine (VNum_any _ _ _ _).mono ?_
  rintro e w2 ⟨rfl, hb2⟩
  have HX2 := Lib.hid ((hb2.block w.heap.size HZ1.out).trans HX1.out)
  have HB2 := Lib.hid (HB1.out.trans (hb2.mono HB1.out.size))
  obtain ⟨⟨y0, y1, y2, y3, y4, y5, y6, y7, y8, y9, y10, y11, y12⟩, yf⟩ := box13 HX2.out
  clear hb2 HX1 HB1 HZ1
  go_wp2_with fail
  refine bodyPost_ret (v := aggV ⟨hdN rn ⟨rs.toArray⟩ re, .slice none 0 0, .slice none 0 0, .slice none 0 0⟩) (by simp [results, Tryz.results37, go_sem, y0, y1, y2, y3, y4, y5, y6, y7, y8, y9, y10, y11, y12]) rfl ⟨rfl, ?_⟩
  repeat refine Below.setCell ?_ (by dsimp only; omega) _
  exact HB2.out
end Go.Proofs.YthdninnjjmhpfaaGreatDoor
