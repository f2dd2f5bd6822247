/- bracelex.Number, datakitref19.Number, the law BracelexNumbers walked. Conditions: none. -/
import Derived.Test.YtmafggfonapmpaaDoorNd6
import Derived.Test.YtmafggfonapmpaaDoorN1
import Derived.Test.YtmafggfonapmpaaDoorR7
import Derived.Test.YtmafggfonapmpaaDoorL1
namespace Go.Proofs.YtmafggfonapmpaaDoor
open Go.RowKit
set_option maxHeartbeats 4000000
set_option maxRecDepth 100000

def numDec (l : List UInt8) : DecR := if numB l = true then decP numP l else badR 3
theorem Number_any (s : ByteArray) (w : World) (hs : s.size ≤ 100000) :
    Calls Tryd.prog 5 #[.string s] w (DecPost w (numDec (L s))) := by
  have HB : Hid (∀ X, Below w.heap.size w (w.alloc X)) := fun X => (Below.refl _ _).alloc (Nat.le_refl _) _
  obtain ⟨r, hr⟩ : ∃ r, r = numDec (L s) := ⟨_, rfl⟩
  rw [← hr]
  unfold numDec at hr
  have HR := Lib.hid hr
  clear hr
  have HNB := Lib.hid (fun w => numeric_any s w (by omega))
  have HP := Lib.hid (fun w => Parse_any s w hs)
  generalize numB (L s) = q at *
  cases q with
  | false =>
    have HF : Hid (∀ w', Below w.heap.size w w' → DecPost w r (.returned (.tuple #[.agg #[.bool false, .string ⟨#[]⟩, .int .i64 0], .int .i64 3])) w') := fun w' hb => decPost_of (by rw [HR.out]; rfl) (by decide) hb
    clear HR HP
    go_enter Tryd.func5, Tryd.ntmps5
    go_wp2_with fail
    refine (HNB.out _).mono ?_
    rintro e w' ⟨rfl, rfl⟩
    go_wp2_with fail
    exact bodyPost_ret (v := .tuple #[.agg #[.bool false, .string ⟨#[]⟩, .int .i64 0], .int .i64 3]) (by simp [results, Tryd.results5, go_sem]) rfl (HF.out _ (HB.out _))
  | true =>
    replace HR : Hid (r = decP numP (L s)) := HR.out
    rw [← HR.out] at HP
    clear HR
    go_enter Tryd.func5, Tryd.ntmps5
    go_wp2_with fail
    refine (HNB.out _).mono ?_
    rintro e w' ⟨rfl, rfl⟩
    go_wp2_with fail
    refine (HP.out _).mono ?_
    rintro e w2 ⟨rfl, hb⟩
    have HB2 := Lib.hid (((Below.refl _ w).alloc (Nat.le_refl _) _).trans (hb.mono (by simp)))
    have hx0 := (hb.block w.heap.size (by simp)).trans (heap_alloc_new w _)
    obtain ⟨⟨y0, y1, y2⟩, yf⟩ := box3 hx0
    obtain ⟨rn, rs, re, rr⟩ := r
    clear hx0 hb HP
    go_wp2_with fail
    refine bodyPost_ret (v := decV ⟨rn, rs, re, rr⟩) (by simp [results, Tryd.results5, go_sem, y0, y1, y2]) rfl ⟨rfl, ?_⟩
    repeat refine Below.setCell ?_ (by dsimp only; omega) _
    exact HB2.out
theorem Number19_any (s : ByteArray) (w : World) (hs : s.size ≤ 100000) :
    Calls Tryd.prog 6 #[.string s] w (DecPost w (numDec (L s))) := by
  have HB : Hid (∀ X, Below w.heap.size w (w.alloc X)) := fun X => (Below.refl _ _).alloc (Nat.le_refl _) _
  obtain ⟨r, hr⟩ : ∃ r, r = numDec (L s) := ⟨_, rfl⟩
  rw [← hr]
  unfold numDec at hr
  rw [dec_same (L s) (by rw [L_len]; exact hs)] at hr
  have HR := Lib.hid hr
  clear hr
  have HNB := Lib.hid (fun w => IsNumber3_any s w (by omega))
  rw [isN_fst] at HNB
  have HP := Lib.hid (fun w => Parse2_any s w hs)
  generalize numB (L s) = q at *
  cases q with
  | false =>
    have HF : Hid (∀ w', Below w.heap.size w w' → DecPost w r (.returned (.tuple #[.agg #[.bool false, .string ⟨#[]⟩, .int .i64 0], .int .i64 3])) w') := fun w' hb => decPost_of (by rw [HR.out]; rfl) (by decide) hb
    clear HR HP
    go_enter Tryd.func6, Tryd.ntmps6
    go_wp2_with fail
    refine (HNB.out _).mono ?_
    rintro e w' ⟨rfl, rfl⟩
    go_wp2_with fail
    exact bodyPost_ret (v := .tuple #[.agg #[.bool false, .string ⟨#[]⟩, .int .i64 0], .int .i64 3]) (by simp [results, Tryd.results6, go_sem]) rfl (HF.out _ (HB.out _))
  | true =>
    replace HR : Hid (r = decP numR (L s)) := HR.out
    rw [← HR.out] at HP
    clear HR
    go_enter Tryd.func6, Tryd.ntmps6
    go_wp2_with fail
    refine (HNB.out _).mono ?_
    rintro e w' ⟨rfl, rfl⟩
    go_wp2_with fail
    refine (HP.out _).mono ?_
    rintro e w2 ⟨rfl, hb⟩
    have HB2 := Lib.hid (((Below.refl _ w).alloc (Nat.le_refl _) _).trans (hb.mono (by simp)))
    have hx0 := (hb.block w.heap.size (by simp)).trans (heap_alloc_new w _)
    obtain ⟨⟨y0, y1, y2⟩, yf⟩ := box3 hx0
    obtain ⟨rn, rs, re, rr⟩ := r
    clear hx0 hb HP
    go_wp2_with fail
    refine bodyPost_ret (v := decV ⟨rn, rs, re, rr⟩) (by simp [results, Tryd.results6, go_sem, y0, y1, y2]) rfl ⟨rfl, ?_⟩
    repeat refine Below.setCell ?_ (by dsimp only; omega) _
    exact HB2.out
theorem NumbersL_any (s : ByteArray) (w : World) (hm : s.size ≤ maxLen) :
    Calls Tryd.prog 3 #[.string s] w fun e w' => e = .returned (.bool true) ∧ Below w.heap.size w w' := by
  unfold maxLen at hm
  by_cases hbig : 2000 < s.size
  · have hb : (2000 : Int) < s.size := by omega
    clear hbig
    go_enter Tryd.func3, Tryd.ntmps3
    go_wp2_with fail
    refine (awake_any _).mono ?_
    rintro e w1 ⟨rfl, hb1⟩
    go_wp2_with fail
    go_ret
    exact ⟨rfl, hb1⟩
  have hb : ¬ (2000 : Int) < s.size := by omega
  have HP := Lib.hid (fun w => Number_any s w (by omega))
  have HR := Lib.hid (fun w => Number19_any s w (by omega))
  have HBP := Lib.hid (fun w => Bare_any s w (by unfold maxLen; omega))
  have HBR := Lib.hid (fun w => Bare3_any s w (by unfold maxLen; omega))
  generalize numDec (L s) = r at *
  generalize bareL (L s) = qb at *
  obtain ⟨rn, rs, re, rr⟩ := r
  clear hbig
  go_enter Tryd.func3, Tryd.ntmps3
  go_wp2_with fail
  refine (HP.out _).mono ?_
  rintro e w1 ⟨rfl, hb1⟩
  have HB1 := Lib.hid hb1
  clear hb1
  go_wp2_with fail
  refine (HR.out _).mono ?_
  rintro e w2 ⟨rfl, hb2⟩
  have hx := (hb2.block w1.heap.size (by simp)).trans (heap_alloc_new w1 _)
  obtain ⟨⟨x0, x1, x2⟩, -⟩ := box3 hx
  have hz : w1.heap.size < w2.heap.size := by have := hb2.size; simp at this; omega
  have HB2 := Lib.hid (HB1.out.trans ((((Below.refl _ w1).alloc (Nat.le_refl _) _).trans (hb2.mono (by simp))).mono HB1.out.size))
  clear hb2 hx
  go_wp2_with (first
    | (go_at_call 7; refine (HBP.out _).mono ?_; rintro e w' ⟨rfl, rfl⟩)
    | (go_at_call 8; refine (HBR.out _).mono ?_; rintro e w' ⟨rfl, rfl⟩))
  refine (awake_any _).mono ?_
  rintro e w3 ⟨rfl, hb3⟩
  have hbw := (HB2.out.alloc HB2.out.size _).trans (hb3.mono (by have := HB2.out.size; simp; omega))
  go_wp2_with fail
  go_ret
  exact ⟨rfl, hbw⟩
end Go.Proofs.YtmafggfonapmpaaDoor
