/- The package datakitref19, walked: Next, Source, Tokens, Unquote. Conditions: strings of at most 10^11 bytes. -/
import Derived.Test.YtmafggfonapmpaaR6
import Derived.Test.YtmafggfonapmpaaBl11
import Derived.Deep.DeepCutAuto
import Derived.Deep.CutBlock
namespace Go.Proofs.Ytmafggfonapmpaa
open Go.RowKit
set_option maxHeartbeats 1000000
set_option maxRecDepth 100000

theorem Next3_any (s : ByteArray) (k : Nat) (w : World) (hk : k < s.size) (hs : s.size ≤ 100000000000) :
    Calls Try.prog 11 #[.string s, .int .i64 k] w fun e w' => e = .returned (.tuple #[(nextV s k).1, .int .i64 (nextV s k).2]) ∧ Below w.heap.size w w' := by
  have h0 : ¬ (k : Int) < 0 := by omega
  have h1 : ¬ (s.size : Int) < k := by omega
  have h2 : ((k : Int) == s.size) = false := by rw [beq_eq_false_iff_ne]; omega
  go_enter Try.func11, Try.ntmps11
  have hnew : ∀ i, (w.alloc (.cells #[.int .i64 0, .string ⟨#[]⟩, .int .i64 0] 24)).cell? ⟨w.heap.size, i, none⟩ = #[Value.int .i64 0, .string ⟨#[]⟩, .int .i64 0][i]? := cell_of_alloc w _ _
  have hfr : ∀ i, (w.alloc (.cells #[.int .i64 0, .string ⟨#[]⟩, .int .i64 0] 24)).frozen? ⟨w.heap.size, i, none⟩ = false := fun i => World.frozen?_alloc_at _ _ _ _ rfl
  have HNW := Lib.hid hnew; clear hnew
  have HFR := Lib.hid hfr; clear hfr
  go_wp2_with fail
  refine (scan3_any _ _ _ hk hs).mono ?_
  rintro e w1 ⟨⟨r, m, rfl, hrn⟩, hb1⟩
  have HN := Lib.hid hrn; clear hrn
  have hc0 : w1.cell? ⟨w.heap.size, 0, none⟩ = some (.int .i64 0) := by rw [hb1.cell (p := ⟨w.heap.size, 0, none⟩) (by simp)]; exact HNW.out 0
  have hc1 : w1.cell? ⟨w.heap.size, 1, none⟩ = some (.string ⟨#[]⟩) := by rw [hb1.cell (p := ⟨w.heap.size, 1, none⟩) (by simp)]; exact HNW.out 1
  have hc2 : w1.cell? ⟨w.heap.size, 2, none⟩ = some (.int .i64 0) := by rw [hb1.cell (p := ⟨w.heap.size, 2, none⟩) (by simp)]; exact HNW.out 2
  have hf0 : w1.frozen? ⟨w.heap.size, 0, none⟩ = false := by rw [hb1.frozen (p := ⟨w.heap.size, 0, none⟩) (by simp)]; exact HFR.out 0
  have hf1 : w1.frozen? ⟨w.heap.size, 1, none⟩ = false := by rw [hb1.frozen (p := ⟨w.heap.size, 1, none⟩) (by simp)]; exact HFR.out 1
  have hf2 : w1.frozen? ⟨w.heap.size, 2, none⟩ = false := by rw [hb1.frozen (p := ⟨w.heap.size, 2, none⟩) (by simp)]; exact HFR.out 2
  have hbw : Below w.heap.size w w1 := ((Below.refl _ _).alloc (Nat.le_refl _) _).trans (hb1.mono (by simp))
  clear hb1 HNW HFR
  by_cases hz : (oneL ((L s).drop k)).2.2 = 0
  case neg =>
    have e1 : (((oneL ((L s).drop k)).2.2 : Int) != 0) = true := by rw [bne_iff_ne]; omega
    have HF : Hid (nextV s k = (.agg #[.int .i64 0, .string ⟨#[]⟩, .int .i64 0], (oneL ((L s).drop k)).2.2)) := by unfold Hid nextV; rw [if_pos hz]
    clear hz HN
    go_wp2_with fail
    exact bodyPost_ret (v := .tuple #[.agg #[.int .i64 0, .string ⟨#[]⟩, .int .i64 0], .int .i64 (oneL ((L s).drop k)).2.2]) (by simp [results, Try.results11, go_sem, hc0, hc1, hc2]) rfl ⟨by rw [HF.out]; try rfl, ((hbw.setCell (Nat.le_refl _) _).setCell (Nat.le_refl _) _).setCell (Nat.le_refl _) _⟩
  have e1 : (((oneL ((L s).drop k)).2.2 : Int) != 0) = false := by rw [bne_eq_false_iff_eq]; omega
  obtain ⟨hr, hm⟩ := HN.out hz
  have hle := oneL_le ((L s).drop k)
  rw [List.length_drop, L_len] at hle
  have hkm : k ≤ m := by omega
  have hms : m ≤ s.size := by omega
  have HF : Hid (nextV s k = (.agg #[.int .i64 r, .string (s.extract k m), .int .i64 k], 0)) := by
    unfold Hid nextV
    rw [if_neg (by simpa using hz), ← hr, ← hm]
  clear hr hm HN hz hle
  go_wp2_with fail
  exact bodyPost_ret (v := .tuple #[.agg #[.int .i64 r, .string (s.extract k m), .int .i64 k], .int .i64 0]) (by simp [results, Try.results11, go_sem, hc0, hc1, hc2]) rfl ⟨by rw [HF.out]; try rfl, ((hbw.setCell (Nat.le_refl _) _).setCell (Nat.le_refl _) _).setCell (Nat.le_refl _) _⟩

theorem tokenF_ret {a b : Nat} {p : Nat × Nat} (h : p = (a, b)) : Ending.returned (.tuple #[.int .i64 a, .int .i64 b]) = Ending.returned (.tuple #[.int .i64 p.1, .int .i64 p.2]) := by rw [h]
/-- The offset and the error that Source hands back. -/
def srcR (s : ByteArray) : Nat × Nat := if 1048576 < s.size then (0, 10) else if badL (L s) < s.size then (badL (L s), 5) else (0, 0)
theorem Source_any (s : ByteArray) (w : World) (hs : s.size ≤ 100000000000) :
    Calls Try.prog 28 #[.string s] w fun e w' => e = .returned (.tuple #[.int .i64 (srcR s).1, .int .i64 (srcR s).2]) ∧ Below w.heap.size w w' := by
  by_cases hbig : 1048576 < s.size
  · have h1 : ((1048576 : Int) < s.size) = True := eq_true (by omega)
    have HF : Hid (srcR s = (0, 10)) := by unfold Hid srcR; rw [if_pos hbig]
    clear hbig
    go_enter Try.func28, Try.ntmps28
    go_wp2_with fail
    go_ret2
    exact ⟨tokenF_ret HF.out, Below.refl _ _⟩
  have h1 : ((1048576 : Int) < s.size) = False := eq_false (by omega)
  have h9 : Hid (s.size ≤ 1000000000) := by unfold Hid; omega
  by_cases hbad : badL (L s) < s.size
  · have HF : Hid (srcR s = (badL (L s), 5)) := by unfold Hid srcR; rw [if_neg hbig, if_pos hbad]
    have z : (badL (L s) : Int) < s.size := by omega
    clear hbig hbad
    go_enter Try.func28, Try.ntmps28
    go_wp2_with (go_at_call 49; refine (Bad_any s _ h9.out).mono ?_; rintro e w1 ⟨rfl, hb1⟩)
    go_ret2
    exact ⟨tokenF_ret HF.out, hb1⟩
  · have HF : Hid (srcR s = (0, 0)) := by unfold Hid srcR; rw [if_neg hbig, if_neg hbad]
    have z : ¬ (badL (L s) : Int) < s.size := by omega
    clear hbig hbad
    go_enter Try.func28, Try.ntmps28
    go_wp2_with (go_at_call 49; refine (Bad_any s _ h9.out).mono ?_; rintro e w1 ⟨rfl, hb1⟩)
    go_ret2
    exact ⟨tokenF_ret HF.out, hb1⟩

theorem badL_le_size (s : ByteArray) : badL (L s) ≤ s.size := by
  have := badL_le (L s)
  rwa [L_len] at this
theorem Tokens3_any (s : ByteArray) (w : World) (hs : s.size ≤ 100000000000) :
    Calls Try.prog 17 #[.string s] w (TokPost w (tokR s)) := by
  by_cases hsr : (srcR s).2 = 0
  case neg =>
    have HF : Hid (tokR s = ([], (srcR s).1, (srcR s).2)) := by
      unfold Hid tokR srcR
      unfold srcR at hsr
      by_cases hbig : 1048576 < s.size
      · rw [if_pos hbig, if_pos hbig]
      · rw [if_neg hbig] at hsr ⊢
        by_cases hbad : badL (L s) < s.size
        · rw [if_pos (by omega), if_neg hbig, if_pos hbad]
        · rw [if_neg hbad] at hsr; exact absurd rfl hsr
    have e1 : (((srcR s).2 : Int) != 0) = true := by rw [bne_iff_ne]; omega
    clear hsr
    go_enter Try.func17, Try.ntmps17
    go_wp2_with (go_at_call 28; refine (Source_any s _ hs).mono ?_; rintro e w1 ⟨rfl, hb1⟩)
    go_ret3
    exact TokPost_none HF.out hb1
  have e1 : (((srcR s).2 : Int) != 0) = false := by rw [bne_eq_false_iff_eq]; omega
  have HX : Hid (tokR s = tokFin [] (tokensG s 0)) := by
    unfold Hid
    have hz2 : tokR s = tokensG s 0 := by
      unfold tokR
      unfold srcR at hsr
      have hbl := badL_le_size s
      by_cases hbig : 1048576 < s.size
      · rw [if_pos hbig] at hsr; exact absurd hsr (by decide)
      · rw [if_neg hbig] at hsr ⊢
        by_cases hbad : badL (L s) < s.size
        · rw [if_pos hbad] at hsr; exact absurd hsr (by simp)
        · rw [if_neg (by omega)]
    rw [hz2]
    unfold tokFin
    by_cases hz : (tokensG s 0).2.2 = 0
    · rw [if_neg (by simpa using hz), List.nil_append]
      exact tokensF_zero s (s.size - 0 + 1) 0 hz
    · rw [if_pos hz]
      exact tokensF_err s (s.size - 0 + 1) 0 hz
  clear hsr
  go_enter Try.func17, Try.ntmps17
  go_wp2_with (go_at_call 28; refine (Source_any s _ hs).mono ?_; rintro e w0 ⟨rfl, hb0⟩)
  go_loopw [7, 8, 9, 10] (fun v i _ _ wr => ∃ (k : Nat) (acc : List (Nat × ByteArray × Nat)), k ≤ s.size ∧ i = .int .i64 k ∧ acc.length ≤ k ∧ wr.ownsRow w.heap.size 24 3 v acc.length (acc.flatMap tk) ∧ Hid (tokR s = tokFin acc (tokensG s k)) ∧ Below w.heap.size w wr) (fun _ i _ _ _ => s.size - (intOf i).toNat)
  case atStart => exact ⟨0, [], Nat.zero_le _, rfl, Nat.le_refl _, World.ownsRow_nil _ _ _ _, HX, hb0⟩
  case round =>
    clear HX hb0
    obtain ⟨k, acc, hk, rfl, hal, hown, HR, hbw⟩ := hrel
    by_cases hlt : k < s.size
    case neg =>
      have HF : Hid (tokR s = (acc, 0, 0)) := by unfold Hid; rw [HR.out, tokensG_end s k (by omega)]; simp [tokFin]
      clear HR
      go_wp2_with fail
      go_ret3
      exact ⟨_, by rw [HF.out]; rfl, by rw [HF.out]; exact hown, hbw⟩
    have hS := tokensG_step s k hlt
    have hpos : (oneL ((L s).drop k)).2.2 = 0 → 1 ≤ (oneL ((L s).drop k)).2.1 := by rw [L_drop s k hlt]; exact oneL_pos _ _
    have hle := oneL_le ((L s).drop k)
    rw [List.length_drop, L_len] at hle
    have HS := Lib.hid hS; clear hS
    have HP := Lib.hid hpos; clear hpos
    have HNV : Hid (nextV s k = if (oneL ((L s).drop k)).2.2 ≠ 0 then (.agg #[.int .i64 0, .string ⟨#[]⟩, .int .i64 0], (oneL ((L s).drop k)).2.2) else (.agg #[.int .i64 (oneL ((L s).drop k)).1, .string (s.extract k (k + (oneL ((L s).drop k)).2.1)), .int .i64 k], 0)) := rfl
    go_wp2_with fail
    refine (Next3_any s k _ hlt hs).mono ?_
    rintro e w1 ⟨rfl, hb1⟩
    have hown1 := own_below hown hb1
    have hbw1 : Below w.heap.size w w1 := hbw.trans (hb1.mono hbw.size)
    clear hown hbw hb1
    generalize (oneL ((L s).drop k)).1 = kind at *
    generalize (oneL ((L s).drop k)).2.1 = n at *
    generalize (oneL ((L s).drop k)).2.2 = er at *
    by_cases hz : er = 0
    case neg =>
      have HV : Hid (nextV s k = (.agg #[.int .i64 0, .string ⟨#[]⟩, .int .i64 0], er)) := by unfold Hid; rw [HNV.out, if_pos hz]
      rw [HV.out]
      by_cases h4 : er = 4
      · have e1 : ((er : Int) == 4) = true := by rw [beq_iff_eq]; omega
        have HF : Hid (tokR s = ([], s.size, 4)) := by unfold Hid; rw [HR.out, HS.out, if_pos h4]; rfl
        subst h4
        clear HNV HR HS hz HP
        go_wp2_with fail
        go_ret3
        exact TokPost_none HF.out (hbw1.alloc hbw1.size _)
      · have e1 : ((er : Int) == 4) = false := by rw [beq_eq_false_iff_ne]; omega
        have e2 : ((er : Int) != 0) = true := by rw [bne_iff_ne]; omega
        have HF : Hid (tokR s = ([], k, er)) := by unfold Hid; rw [HR.out, HS.out, if_neg h4, if_pos hz, tokFin, if_pos hz]
        clear HNV HR HS hz HP h4
        go_wp2_with fail
        go_ret3
        exact TokPost_none HF.out (hbw1.alloc hbw1.size _)
    subst hz
    have HV : Hid (nextV s k = (.agg #[.int .i64 kind, .string (s.extract k (k + n)), .int .i64 k], 0)) := by unfold Hid; rw [HNV.out]; rfl
    rw [HV.out]
    have hn1 := HP.out rfl
    have HF : Hid (tokR s = tokFin (acc ++ [(kind, s.extract k (k + n), k)]) (tokensG s (k + n))) := by unfold Hid; rw [HR.out, HS.out, if_neg (by decide), if_neg (by decide), tokFin_fin]
    clear HNV HR HS HP
    have hsz := ext_len s k n (by omega)
    have HSZ := Lib.hid hsz; clear hsz
    have hz1 : w.heap.size ≤ w1.heap.size := hbw1.size
    generalize s.extract k (k + n) = txt at *
    have hszl : txt.size ≤ s.size := by rw [HSZ.out]; omega
    have hownA := hown1.alloc (.cells #[.int .i64 kind, .string txt, .int .i64 k] 24)
    go_wp2_with (at_builtin; refine wp_pushG elem_tok rfl _ _ rfl hownA (tk (kind, txt, k)) rfl (tk_one _) rfl (w1.heap.size + 1) (by simp) rfl (by omega) (by simp; omega) ?_; intro v' w2 hown2 hg2 hb2; have hcell : w2.cell? ⟨w1.heap.size, 1, none⟩ = some (.string txt) := cell_kept hg2 (cell_of_alloc w1 _ _ 1) (own_ne hown1 (Nat.le_refl _)))
    have hbw2 : Below w.heap.size w w2 := (hbw1.alloc hz1 _).trans hb2
    refine ⟨⟨k + n, acc ++ [(kind, txt, k)], by omega, by rw [HSZ.out]; rfl, by simp; omega, by rw [List.flatMap_append, List.length_append]; simpa using hown2, HF, hbw2⟩, ?_⟩
    rw [HSZ.out]
    simp [intOf]
    omega

theorem Unquote3_any (s : ByteArray) (w : World) (hs : s.size ≤ 100000000000) :
    Calls Try.prog 15 #[.string s] w fun e w' => e = .returned (.tuple #[.string ⟨(unqL (L s)).1.toArray⟩, .int .i64 (unqL (L s)).2]) ∧ Below w.heap.size w w' := by
  by_cases he : L s = []
  · have he1 : s.toList.isEmpty = true := by rw [empty_L]; simpa using he
    have HF : Hid (unqL (L s) = ([], 4)) := by unfold Hid; rw [he]; rfl
    clear he
    go_enter Try.func15, Try.ntmps15
    go_wp2_with fail
    go_ret2
    exact ⟨ret2_str HF.out, Below.refl _ _⟩
  have he1 : s.toList.isEmpty = false := by rw [empty_L]; simpa using he
  have hp := size_pos he
  have hX : Hid (unqL (L s) = if s[0].toNat ≠ 34 then ([], 3) else if (quotR ((L s).drop 1)).2.2 ≠ 0 then ([], (quotR ((L s).drop 1)).2.2) else if (quotR ((L s).drop 1)).2.1 < s.size then ([], 3) else ((quotR ((L s).drop 1)).1, 0)) := by
    unfold Hid
    rw [L_cons0 s hp, unqL, show ((L s).drop 1).length + 1 = s.size by rw [List.length_drop, L_len]; omega]
    rfl
  clear he
  by_cases h34 : s[0].toNat = 34
  case neg =>
    have g : ((s[0].toNat : Int) != 34) = true := by rw [bne_iff_ne]; omega
    have HF : Hid (unqL (L s) = ([], 3)) := by unfold Hid; rw [hX.out, if_pos h34]
    clear hX h34
    go_enter Try.func15, Try.ntmps15
    go_wp2_with fail
    go_ret2
    exact ⟨ret2_str HF.out, Below.refl _ _⟩
  have g : ((s[0].toNat : Int) != 34) = false := by rw [bne_eq_false_iff_eq]; omega
  have hY : Hid (unqL (L s) = if (quotR ((L s).drop 1)).2.2 ≠ 0 then ([], (quotR ((L s).drop 1)).2.2) else if (quotR ((L s).drop 1)).2.1 < s.size then ([], 3) else ((quotR ((L s).drop 1)).1, 0)) := by
    unfold Hid; rw [hX.out, if_neg (by simpa using h34)]
  clear hX h34
  have hle := quotR_le ((L s).drop 1)
  rw [List.length_drop, L_len] at hle
  have HLE : Hid ((quotR ((L s).drop 1)).2.1 ≤ s.size) := by unfold Hid; omega
  clear hle
  go_enter Try.func15, Try.ntmps15
  go_wp2_with fail
  refine (Quoted3_any s 0 _ hp hs).mono ?_
  rintro e w1 ⟨⟨m, rfl, hm⟩, hb⟩
  rw [show (L s).drop (0 + 1) = (L s).drop 1 from rfl] at *
  generalize (quotR ((L s).drop 1)).1 = t at *
  generalize (quotR ((L s).drop 1)).2.1 = n at *
  generalize (quotR ((L s).drop 1)).2.2 = er at *
  by_cases hz : er = 0
  case neg =>
    have e1 : ((er : Int) != 0) = true := by rw [bne_iff_ne]; omega
    have HF : Hid (unqL (L s) = ([], er)) := by unfold Hid; rw [hY.out, if_pos hz]
    clear hY hz hm
    go_wp2_with fail
    go_ret2
    exact ⟨ret2_str HF.out, hb⟩
  have hmn := hm hz
  subst hz
  clear hm
  by_cases hn : n < s.size
  · have e2 : ((m : Int) != s.size) = true := by rw [bne_iff_ne]; omega
    have HF : Hid (unqL (L s) = ([], 3)) := by unfold Hid; rw [hY.out, if_neg (by decide), if_pos hn]
    clear hY hn hmn
    go_wp2_with fail
    go_ret2
    exact ⟨ret2_str HF.out, hb⟩
  · have hle := HLE.out
    have e2 : ((m : Int) != s.size) = false := by rw [bne_eq_false_iff_eq]; omega
    have HF : Hid (unqL (L s) = (t, 0)) := by unfold Hid; rw [hY.out, if_neg (by decide), if_neg hn]
    clear hY hn hmn hle
    go_wp2_with fail
    go_ret2
    exact ⟨ret2_str HF.out, hb⟩
end Go.Proofs.Ytmafggfonapmpaa
