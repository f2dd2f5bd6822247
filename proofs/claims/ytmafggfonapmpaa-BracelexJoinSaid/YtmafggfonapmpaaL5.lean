/- The package datakitlaw19, walked: BracelexJoin. Conditions: none. -/
import Derived.Test.YtmafggfonapmpaaJn3
namespace Go.Proofs.Ytmafggfonapmpaa
open Go.RowKit
set_option maxHeartbeats 1000000
set_option maxRecDepth 100000

theorem nonempty_ext (s : ByteArray) (k n : Nat) (h1 : 1 ≤ n) (h2 : k + n ≤ s.size) : (s.extract k (k + n)).toList.isEmpty = false := by
  rw [empty_L]
  have : (L (s.extract k (k + n))).length = n := by rw [L_len, ext_len s k n h2]
  cases hl : L (s.extract k (k + n)) with
  | nil => rw [hl] at this; simp at this; omega
  | cons a b => rfl

/-- The law BracelexJoin. -/
theorem JoinL_any (s : ByteArray) (w : World) :
    Calls Try.prog 8 #[.string s] w fun e w' => e = .returned (.bool true) ∧ Below w.heap.size w w' := by
  by_cases hs : 2000 < s.size
  · have h1 : (2000 : Int) < s.size := by omega
    go_enter Try.func8, Try.ntmps8
    go_wp2_with (go_at_call 9; refine (awake_any _).mono ?_; rintro e w1 ⟨rfl, hb1⟩)
    go_ret
    exact ⟨rfl, hb1⟩
  have h1 : ¬ (2000 : Int) < s.size := by omega
  have hs' : s.size ≤ 100000000000 := by omega
  by_cases herr : (tokR s).2.2 = 0
  case neg =>
    have e1 : (((tokR s).2.2 : Int) != 0) = true := by rw [bne_iff_ne]; omega
    have HN := Lib.hid (tok_none s herr)
    clear herr hs
    go_enter Try.func8, Try.ntmps8
    go_wp2_with fail
    refine (Tokens_all s _).mono ?_
    rintro e w1 ⟨v, rfl, hown, hb1⟩
    rw [HN.out] at hown
    obtain ⟨_, A, cap, rfl, _⟩ := own_form hown
    simp only [List.length_nil]
    clear hown
    go_wp2_with (go_at_call 9; refine (awake_any _).mono ?_; rintro e w2 ⟨rfl, hb2⟩)
    go_ret
    exact ⟨rfl, hb1.trans (hb2.mono hb1.size)⟩
  have hch := tok_chain s herr
  have HT : Hid (txts (tokR s).1 = L s) := by
    unfold Hid
    rw [chain_txts s _ 0 (Nat.zero_le _) hch, List.drop_zero]
  have HC := Lib.hid hch; clear hch
  have HS9 : Hid (s.size ≤ 2000) := by unfold Hid; omega
  clear hs
  go_enter Try.func8, Try.ntmps8
  go_wp2_with fail
  refine (Tokens_all s _).mono ?_
  rintro e w1 ⟨v, rfl, hown, hb1⟩
  rw [herr]
  clear herr
  obtain ⟨hTm, A, cap, rfl, hA⟩ := own_form hown
  generalize (tokR s).1 = T at *
  generalize (tokR s).2.1 = n1 at *
  have HO := Lib.hid hown; clear hown
  have HA := Lib.hid hA; clear hA
  go_wp2_with fail
  go_loopw [6, 7, 8, 9] (fun at_ cnt _ _ wr => ∃ k o : Nat, k ≤ T.length ∧ o ≤ s.size ∧ at_ = .int .i64 o ∧ cnt = .int .i64 k ∧ Hid (chain s o (T.drop k)) ∧ Hid (wr.ownsRow w.heap.size 24 3 (.slice A T.length cap) T.length (T.flatMap tk)) ∧ Below w.heap.size w wr) (fun _ cnt _ _ _ => T.length - (intOf cnt).toNat)
  case atStart => exact ⟨0, 0, Nat.zero_le _, Nat.zero_le _, rfl, rfl, HC.out, HO.out, hb1⟩
  case round =>
    clear HC HO hb1
    obtain ⟨k, o, hk, ho, rfl, rfl, HC, HO, hbw⟩ := hrel
    have hz := hbw.size
    by_cases hlt : k < T.length
    case neg =>
      obtain rfl : k = T.length := by omega
      have hoe : o = s.size := by
        have := HC.out
        rw [List.drop_length] at this
        exact this
      have HE : Hid (nextA s (s.size : Int) = (tokZ, 7)) := by unfold Hid nextA; rw [if_neg (by omega), if_pos rfl]
      have HJ : Hid ((⟨(txts T).toArray⟩ : ByteArray) = s) := by unfold Hid; rw [HT.out]; rfl
      have HJL : Hid ((txts T).length ≤ 1000000000) := by have := HS9.out; unfold Hid; rw [HT.out, L_len]; omega
      have q : ((o : Int) == s.size) = true := by rw [beq_iff_eq]; omega
      clear HC hoe HT
      go_wp2_with fail
      refine (NextA_any s _ _ hs').mono ?_
      rintro e w2 ⟨rfl, hb2⟩
      rw [HE.out]
      have HO2 := Lib.hid ((own_below HO.out hb2).alloc (.cells #[.int .i64 0, .string ⟨#[]⟩, .int .i64 0] 24))
      have hbw2 : Below w.heap.size w w2 := hbw.trans (hb2.mono hz)
      clear HO hb2
      simp only [tokZ]
      go_wp2_with fail
      refine (Join_any T _ _ _ HO2.out HJL.out).mono ?_
      rintro e w3 ⟨rfl, hb3⟩
      rw [HJ.out]
      have hbw3 : Below w.heap.size w w3 := (hbw2.alloc hbw2.size _).trans (hb3.mono (by have := hbw2.size; simp; omega))
      clear hb3
      go_wp2_with fail
      refine (awake_any _).mono ?_
      rintro e w4 ⟨rfl, hb4⟩
      go_wp2_with fail
      go_ret
      exact ⟨rfl, hbw3.trans (hb4.mono hbw3.size)⟩
    have hc := HC.out
    rw [List.drop_eq_getElem_cons hlt] at hc
    obtain ⟨n, hn1, hn2, hone, hx, hc2⟩ := hc
    have hos : o < s.size := by omega
    have hkd : 1 ≤ T[k].1 ∧ T[k].1 ≤ 6 := by
      have := one_kind s[o] ((L s).drop (o + 1)) (by rw [← L_drop s o hos, hone])
      rw [← L_drop s o hos, hone] at this
      exact this
    have HV : Hid (nextV s o = (.agg #[.int .i64 T[k].1, .string (s.extract o (o + n)), .int .i64 o], 0)) := by
      unfold Hid nextV
      rw [hone]
      rfl
    obtain ⟨g, rfl, _, hg⟩ := HA.out (by omega)
    have hx1 : T[k].2.1 = s.extract o (o + n) := by rw [hx]
    have hx2 : T[k].2.2 = o := by rw [hx]
    have hne := nonempty_ext s o n hn1 hn2
    have hsz := ext_len s o n hn2
    have HSZ := Lib.hid hsz
    have HC2 := Lib.hid hc2
    have HX1 := Lib.hid hx1
    have HX2 := Lib.hid hx2
    clear hc2 hone hx hsz hx1 hx2 HC
    go_wp2_with fail
    refine (Next_any s o _ hos hs').mono ?_
    rintro e w2 ⟨rfl, hb2⟩
    rw [HV.out]
    have hO2 := (own_below HO.out hb2).alloc (.cells #[.int .i64 T[k].1, .string (s.extract o (o + n)), .int .i64 o] 24)
    have hbw2 : Below w.heap.size w w2 := hbw.trans (hb2.mono hz)
    obtain ⟨c0, c1, c2⟩ := tok_cells hO2 k hlt
    rw [HX1.out] at c1
    rw [HX2.out] at c2
    have d0 : (w2.alloc (.cells #[.int .i64 T[k].1, .string (s.extract o (o + n)), .int .i64 o] 24)).cell? ⟨w2.heap.size, 0, none⟩ = some (.int .i64 T[k].1) := cell_of_alloc w2 _ _ 0
    have d1 : (w2.alloc (.cells #[.int .i64 T[k].1, .string (s.extract o (o + n)), .int .i64 o] 24)).cell? ⟨w2.heap.size, 1, none⟩ = some (.string (s.extract o (o + n))) := cell_of_alloc w2 _ _ 1
    have d2 : (w2.alloc (.cells #[.int .i64 T[k].1, .string (s.extract o (o + n)), .int .i64 o] 24)).cell? ⟨w2.heap.size, 2, none⟩ = some (.int .i64 o) := cell_of_alloc w2 _ _ 2
    have hbw3 : Below w.heap.size w (w2.alloc (.cells #[.int .i64 T[k].1, .string (s.extract o (o + n)), .int .i64 o] 24)) := hbw2.alloc hbw2.size _
    have HO3 := Lib.hid hO2
    have HNE : Hid ((s.extract o (o + n)).size = n) := HSZ.out
    have hszl : (s.extract o (o + n)).size ≤ s.size := by rw [HSZ.out]; omega
    have k1 : ¬ (T[k].1 : Int) < 1 := by omega
    have k2 : ¬ (6 : Int) < T[k].1 := by omega
    have hosz : o + (s.extract o (o + n)).size ≤ s.size := by rw [HSZ.out]; omega
    clear hO2 hb2 hbw hbw2 HO HV HX1 HX2 hkd
    generalize T[k].1 = kd at *
    generalize s.extract o (o + n) = txt at *
    go_wp2_with fail
    generalize (w2.alloc (.cells #[.int .i64 kd, .string txt, .int .i64 o] 24)) = w3 at *
    go_quiet (fail)
    go_wp2_with fail
    have hbm : Below w.heap.size w (w3.drewN nq) := ⟨hbw3.os, hbw3.tape, hbw3.output, hbw3.size, hbw3.block⟩
    exact ⟨⟨k + 1, o + n, by omega, hn2, by rw [HSZ.out]; rfl, rfl, HC2, HO3.out, hbm⟩, by simp [intOf]; omega⟩
end Go.Proofs.Ytmafggfonapmpaa
