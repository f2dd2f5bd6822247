/- strconv.Itoa, Atoi off the shelf; path.Text walked. Conditions: valid paths; the tables of strconv and math/bits read as laid. -/
import Derived.Test.YtjbhjnelepbkcaaDoorPs2
import Derived.Test.YtjbhjnelepbkcaaDoorPa3
namespace Go.Proofs.YtjbhjnelepbkcaaDoor
open Go.RowKit Go.Shelf
set_option maxHeartbeats 1000000
set_option maxRecDepth 100000

theorem below_grow' (w : World) (k : Nat) (os : Array Obj) : Below w.heap.size w (Go.Sort.grow (w.drewN k) os) :=
  ⟨rfl, rfl, rfl, by show w.heap.size ≤ (w.heap ++ os).size; rw [Array.size_append]; omega, fun j hj => by show (w.heap ++ os)[j]? = w.heap[j]?; rw [Array.getElem?_append_left hj]⟩
theorem Itoa_any (n : Int) (h0 : 0 ≤ n) (h1 : n ≤ 65536) (w : World) (he : Env w) :
    Calls Tryd.prog 32 #[.int .i64 n] w fun e w' => e = .returned (.string ⟨(Lib.itoa n).toArray⟩) ∧ Below w.heap.size w w' := by
  refine (Tryd.strconv_Itoa n (by omega) (by omega) w he.1).mono ?_
  rintro e w' ⟨rfl, k, os, rfl⟩
  exact ⟨rfl, below_grow' w k os⟩
theorem Atoi_ok (s : ByteArray) (n : Int) (hl : s.size ≤ 18) (h : Lib.atoi (L s) = some n) (w : World) :
    Calls Tryd.prog 36 #[.string s] w fun e w' => e = .returned (.tuple #[.int .i64 n, .nilIface]) ∧ Below w.heap.size w w' := by
  refine (Tryd.strconv_Atoi s n hl h w).mono ?_
  rintro e w' ⟨rfl, t, rfl⟩
  exact ⟨rfl, Go.Joins.below_bytesWorld _ _ _ _ (Nat.le_refl _)⟩
theorem Atoi_no (s : ByteArray) (hl : s.size ≤ 18) (h : Lib.atoi (L s) = none) (w : World) (he : Env w) :
    Calls Tryd.prog 36 #[.string s] w fun e w' => (∃ N, e = .returned (.tuple #[.int .i64 0, .iface 78 (.pointer (some ⟨N, 0, none⟩))])) ∧ Below w.heap.size w w' := by
  obtain ⟨_, _, _, ev, hv, hev⟩ := he
  refine (Tryd.strconv_Atoi_err s hl h ev w hv hev).mono ?_
  rintro e w' ⟨N, rfl, _, _, hb⟩
  exact ⟨⟨N, rfl⟩, hb⟩

theorem itoa_len (n : Int) (h0 : 0 ≤ n) (h1 : n ≤ 65536) : (Lib.itoa n).length ≤ 5 := by
  unfold Lib.itoa
  rw [if_neg (by omega)]
  exact decDigits_len _ (by omega)
theorem sgn_len (b : UInt8) : (sgn b).length ≤ 6 := by
  unfold sgn
  have := hexT_len b.toNat
  repeat' split
  all_goals first | (simp; done) | (simp only [List.length_cons, List.length_append, List.length_nil]; omega)
theorem flat_len6 (l : List UInt8) : (l.flatMap sgn).length ≤ 6 * l.length := by
  induction l with
  | nil => exact Nat.le_refl _
  | cons b l ih =>
    have := sgn_len b
    rw [List.flatMap_cons, List.length_append, List.length_cons]
    omega
theorem okSt_at {l : List St} (h : l.all okSt = true) (k : Nat) (hk : k < l.length) : okSt l[k] = true := List.all_eq_true.1 h _ (List.getElem_mem hk)
theorem text_snoc (l : List St) (k : Nat) (h : k < l.length) : (l.take (k + 1)).flatMap stepT = (l.take k).flatMap stepT ++ stepT l[k] := by
  rw [List.take_succ_eq_append_getElem h, List.flatMap_append]
  simp
theorem PText_any (v : Value) (l : List St) (w : World) (h : Rd w v l) (hv : validP l = true) (he : Env w) :
    Calls Tryd.prog 16 #[v] w fun e w' => e = .returned (.string ⟨(textL l).toArray⟩) ∧ Below w.heap.size w w' := by
  obtain ⟨a, cap, rfl, hcap, hmax, _, hl⟩ := h
  obtain ⟨hok, h48⟩ := all_ok hv
  clear hv
  by_cases h0 : l = []
  · subst h0
    clear hl
    go_enter Tryd.func16, Tryd.ntmps16
    go_wp2_with fail
    go_ret
    exact ⟨rfl, Below.refl _ _⟩
  have hlen : 0 < l.length := List.length_pos_iff.2 h0
  obtain ⟨g, o, rfl, hg, hat⟩ := hl h0
  obtain ⟨c0, c1, c2⟩ := hat 0 hlen
  simp only [Nat.zero_mul, Nat.add_zero] at c0
  clear c1 c2 hl
  have HT : Hid (textL l = preT l ++ l.flatMap stepT) := by unfold Hid textL; rw [if_neg (by simp [h0])]
  have HP : Hid (preT l = if l[0].1 then [46] else []) := by
    unfold Hid
    cases l with
    | nil => exact absurd rfl h0
    | cons s p => rfl
  have HA := Lib.hid hat; clear hat
  have HOK := Lib.hid hok; clear hok
  have HE := Lib.hid he; clear he
  have hne0 : ((l.length : Int) == 0) = false := by rw [beq_eq_false_iff_ne]; omega
  clear h0
  cases hb : l[0].1
  case false =>
    rw [hb] at c0 HP
    clear hb
    have HPR : Hid (preT l = []) := HP.out
    clear HP
    go_enter Tryd.func16, Tryd.ntmps16
    go_wp2_with fail
    have hb1 : Below w.heap.size w w := Below.refl _ _
    have hst : ∃ acc : List UInt8, acc.length ≤ 1 ∧ acc = [] ∧ w.ownsRow w.heap.size 5 1 (.slice none 0 0) acc.length (acc.map bv) := ⟨[], by decide, rfl, World.ownsRow_nil _ _ _ _⟩
    have HST := Lib.hid hst; clear hst
    have HB1 := Lib.hid hb1
    go_loopw [3, 5, 18] (fun o _ n wr => ∃ (k : Nat) (acc : List UInt8), k ≤ l.length ∧ n = .int .i64 k ∧ acc.length ≤ 7000 * k + 1 ∧ wr.ownsRow w.heap.size 5 1 o acc.length (acc.map bv) ∧ Hid (acc = preT l ++ (l.take k).flatMap stepT) ∧ Below w.heap.size w wr) (fun _ _ n _ => l.length - (intOf n).toNat)
    case atStart =>
      obtain ⟨acc, ha, hacc, hown⟩ := HST.out
      exact ⟨0, acc, Nat.zero_le _, rfl, by omega, hown, by unfold Hid; rw [hacc, HPR.out]; rfl, HB1.out⟩
    case round =>
      clear HST HB1 hb1 c0 
      obtain ⟨k, acc, hk, rfl, hal, hown, HA2, hbw⟩ := hrel
      have hz := hbw.size
      by_cases hlt : k < l.length
      case neg =>
        obtain rfl : k = l.length := by omega
        have HX : Hid (textL l = acc) := by
          unfold Hid
          rw [HT.out, HA2.out, List.take_of_length_le (Nat.le_refl _)]
        clear HA2 HT HPR
        have hcv := conv_own bytesT hown
        go_wp2_with fail
        go_ret
        exact ⟨by rw [HX.out]; rfl, hbw⟩
      have hstep : ∀ cs, cs = stepT l[k] → Hid (acc ++ cs = preT l ++ (l.take (k + 1)).flatMap stepT) := by
        intro cs hcs
        unfold Hid
        rw [HA2.out, hcs, text_snoc l k hlt, List.append_assoc]
      have HS := Lib.hid hstep; clear hstep HA2
      obtain ⟨d0, d1, d2⟩ := HA.out k hlt
      have hs := okSt_at HOK.out k hlt
      rw [← hbw.cell (p := ⟨g, o + k * 3, none⟩) hg] at d0
      rw [← hbw.cell (p := ⟨g, o + k * 3 + 1, none⟩) hg] at d1
      rw [← hbw.cell (p := ⟨g, o + k * 3 + 2, none⟩) hg] at d2
      generalize l[k] = s at *
      obtain ⟨b, key, ix⟩ := s
      simp only [] at d0 d1 d2
      have hownC := hown.alloc (.cells #[.bool b, .string key, .int .i64 ix] 26)
      have hbwC : Below w.heap.size w (wr.alloc (.cells #[.bool b, .string key, .int .i64 ix] 26)) := hbw.alloc hz _
      have hzC := hbwC.size
      have HEC := Lib.hid (HE.out.below hbwC)
      have hg1 : g < wr.heap.size := by omega
      have HOC := Lib.hid hownC
      clear hown hownC
      cases b with
      | true =>
        rw [okSt_true, decide_eq_true_eq] at hs
        obtain ⟨_, hi0, hi1⟩ := hs
        have hle := itoa_len ix hi0 hi1
        have hi1' : Hid (ix ≤ 65536) := hi1
        clear hi1
        obtain ⟨H, hH⟩ : ∃ H : ByteArray, H = ⟨(Lib.itoa ix).toArray⟩ := ⟨_, rfl⟩
        have hLH : L H = Lib.itoa ix := by rw [hH]; rfl
        have hHs : H.size ≤ 5 := by rw [← L_len, hLH]; exact hle
        have hLT : L (⟨#[91]⟩ ++ H ++ ⟨#[93]⟩) = 91 :: (Lib.itoa ix ++ [93]) := by rw [L_append, L_append, hLH]; rfl
        have hTs : (⟨#[91]⟩ ++ H ++ ⟨#[93]⟩ : ByteArray).size ≤ 7 := by rw [← L_len, hLT]; simp only [List.length_cons, List.length_append, List.length_nil]; omega
        have HQ := HS.out (L (⟨#[91]⟩ ++ H ++ ⟨#[93]⟩)) (by rw [hLT]; rfl)
        have HC := Lib.hid (fun w' (h : Env w') => Itoa_any ix hi0 hi1'.out w' h)
        rw [← hH] at HC
        have HT7 := Lib.hid hTs
        have HLT7 : Hid ((L (⟨#[91]⟩ ++ H ++ ⟨#[93]⟩)).length ≤ 7) := by unfold Hid; rw [L_len]; exact hTs
        clear HS hH hLH hLT hTs hle
        go_wp2_with fail
        refine (HC.out _ HEC.out).mono ?_
        rintro e w2 ⟨rfl, hb2⟩
        have hown2 := own_below HOC.out hb2
        have hbw2 := hbwC.trans (hb2.mono hzC)
        have hz2 := hbw2.size
        have HS7 : Hid (acc.length + (⟨#[91]⟩ ++ H ++ ⟨#[93]⟩ : ByteArray).size < 100000000000000) := by have := HT7.out; unfold Hid; omega
        clear HOC HC hbwC hzC hb2
        go_wp2_with (at_builtin; refine wp_pushS bytesT rfl _ _ rfl hown2 (⟨#[91]⟩ ++ H ++ ⟨#[93]⟩) rfl rfl HS7.out hz2 ?_; intro v' w3 hown3 hg3 hb3)
        refine ⟨⟨k + 1, acc ++ L (⟨#[91]⟩ ++ H ++ ⟨#[93]⟩), by omega, rfl, ?_, ?_, HQ, hbw2.trans hb3⟩, by simp [intOf]; omega⟩
        · rw [List.length_append]; have := HLT7.out; omega
        · rw [List.length_append, L_len]; exact hown3
      | false =>
        rw [okSt_false, decide_eq_true_eq] at hs
        obtain ⟨rfl, hks, _⟩ := hs
        have hF : ∀ w', Calls Tryd.prog 33 #[.string key] w' fun e w'' => e = .returned (.int .i64 (folL (L key))) ∧ w'' = w' := fun w' => (follows_any key w' (by omega)).mono fun e w'' ⟨he, hw⟩ => ⟨he, hw.symm⟩
        have HF2 := Lib.hid hF; clear hF
        by_cases hnm : isName (L key) = true
        · have hnm' := hnm
          unfold isName at hnm'
          simp only [decide_eq_true_eq] at hnm'
          obtain ⟨hn0, hn1⟩ := hnm'
          have e1 : key.toList.isEmpty = false := by
            rw [Bool.eq_false_iff, ne_eq, neE, ← L_len]
            intro h
            exact hn0 (List.length_eq_zero_iff.1 h)
          have e2 : ((folL (L key) : Int) == key.size) = true := by rw [beq_iff_eq, hn1, L_len]
          have hLT : L (⟨#[46]⟩ ++ key) = 46 :: L key := by rw [L_append]; rfl
          have hTs : (⟨#[46]⟩ ++ key : ByteArray).size ≤ 1025 := by rw [ByteArray.size_append]; show 1 + _ ≤ _; omega
          have HQ := HS.out (L (⟨#[46]⟩ ++ key)) (by rw [hLT]; unfold stepT; simp [hnm])
          have HT7 := Lib.hid hTs
          clear HS hLT hnm hn0 hn1
          have HOD : Hid (∀ nq, ((wr.alloc (.cells #[.bool false, .string key, .int .i64 0] 26)).drewN nq).ownsRow w.heap.size 5 1 u3 acc.length (acc.map bv)) := fun nq => HOC.out
          have HBD : Hid (∀ nq, Below w.heap.size w ((wr.alloc (.cells #[.bool false, .string key, .int .i64 0] 26)).drewN nq)) := fun nq => ⟨hbwC.os, hbwC.tape, hbwC.output, hbwC.size, hbwC.block⟩
          have HS7 : Hid (acc.length + (⟨#[46]⟩ ++ key : ByteArray).size < 100000000000000) := by unfold Hid; omega
          clear HOC hbwC hzC hTs
          go_wp2_with fail
          go_quiet (first | (go_at_call 33; exact Calls.quiet_of_same (HF2.out _)))
          have hownD := HOD.out nq
          have hbwD := HBD.out nq
          have hzD := hbwD.size
          go_wp2_with (at_builtin; refine wp_pushS bytesT rfl _ _ rfl hownD (⟨#[46]⟩ ++ key) rfl rfl HS7.out hzD ?_; intro v' w3 hown3 hg3 hb3)
          refine ⟨⟨k + 1, acc ++ L (⟨#[46]⟩ ++ key), by omega, rfl, ?_, ?_, HQ, hbwD.trans hb3⟩, by simp [intOf]; omega⟩
          · rw [List.length_append, L_len]; have := HT7.out; omega
          · rw [List.length_append, L_len]; exact hown3
        · obtain ⟨Q, hQ⟩ : ∃ Q : ByteArray, Q = ⟨(quoteT (L key)).toArray⟩ := ⟨_, rfl⟩
          have hLQ : L Q = quoteT (L key) := by rw [hQ]; rfl
          have hf6 := flat_len6 (L key)
          rw [L_len] at hf6
          have hQs : Q.size ≤ 6146 := by rw [← L_len, hLQ]; unfold quoteT; simp only [List.length_cons, List.length_append, List.length_nil]; omega
          have hLT : L (⟨#[46]⟩ ++ Q) = 46 :: quoteT (L key) := by rw [L_append, hLQ]; rfl
          have hTs : (⟨#[46]⟩ ++ Q : ByteArray).size ≤ 6147 := by rw [ByteArray.size_append]; show 1 + _ ≤ _; omega
          have HQ := HS.out (L (⟨#[46]⟩ ++ Q)) (by rw [hLT]; unfold stepT quoteT; simp [hnm])
          have HC := Lib.hid (fun w' (h : Env w') => quote_any key w' (by omega) h)
          rw [← hQ] at HC
          have HT7 := Lib.hid hTs
          have HOD : Hid (∀ nq, ((wr.alloc (.cells #[.bool false, .string key, .int .i64 0] 26)).drewN nq).ownsRow w.heap.size 5 1 u3 acc.length (acc.map bv)) := fun nq => HOC.out
          have HBD : Hid (∀ nq, Below w.heap.size w ((wr.alloc (.cells #[.bool false, .string key, .int .i64 0] 26)).drewN nq)) := fun nq => ⟨hbwC.os, hbwC.tape, hbwC.output, hbwC.size, hbwC.block⟩
          have HS7 : Hid (acc.length + (⟨#[46]⟩ ++ Q : ByteArray).size < 100000000000000) := by unfold Hid; omega
          have key2 : (key.toList.isEmpty = true) ∨ (key.toList.isEmpty = false ∧ ((folL (L key) : Int) == key.size) = false) := by
            cases h1 : key.toList.isEmpty with
            | true => exact .inl rfl
            | false =>
              right
              refine ⟨rfl, ?_⟩
              rw [beq_eq_false_iff_ne]
              intro h2
              apply hnm
              unfold isName
              simp only [decide_eq_true_eq]
              refine ⟨fun h3 => ?_, by rw [L_len]; omega⟩
              have h4 : key.size = 0 := by rw [← L_len, h3]; rfl
              rw [neE.2 h4] at h1
              cases h1
          clear HS hQ hLQ hLT hTs hnm HOC hbwC hzC hf6
          rcases key2 with e1 | ⟨e1, e2⟩
          all_goals
            go_wp2_with fail
            go_quiet (first | (go_at_call 33; exact Calls.quiet_of_same (HF2.out _)))
            have hownD := HOD.out nq
            have hbwD := HBD.out nq
            have hzD := hbwD.size
            have HED := Lib.hid (HE.out.below hbwD)
            go_wp2_with fail
            refine (HC.out _ HED.out).mono ?_
            rintro e w2 ⟨rfl, hb2⟩
            have hown2 := own_below hownD hb2
            have hbw2 := hbwD.trans (hb2.mono hzD)
            have hz2 := hbw2.size
            clear hownD hbwD hzD hb2
            go_wp2_with (at_builtin; refine wp_pushS bytesT rfl _ _ rfl hown2 (⟨#[46]⟩ ++ Q) rfl rfl HS7.out hz2 ?_; intro v' w3 hown3 hg3 hb3)
            refine ⟨⟨k + 1, acc ++ L (⟨#[46]⟩ ++ Q), by omega, rfl, ?_, ?_, HQ, hbw2.trans hb3⟩, by simp [intOf]; omega⟩
            · rw [List.length_append, L_len]; have := HT7.out; omega
            · rw [List.length_append, L_len]; exact hown3
  case true =>
    rw [hb] at c0 HP
    clear hb
    have HPR : Hid (preT l = [46]) := HP.out
    clear HP
    go_enter Tryd.func16, Tryd.ntmps16
    have hownN : w.ownsRow w.heap.size 5 1 (.slice none 0 0) 0 (([] : List UInt8).map bv) := World.ownsRow_nil _ _ _ _
    go_wp2_with (at_builtin; refine wp_pushM bytesT rfl _ _ rfl hownN [46] [.int .u8 46] rfl 1 rfl rfl _ rfl rfl (by omega) (Nat.le_refl _) ?_; intro v1 w1 hown1 hg1 hb1)
    have hst : ∃ acc : List UInt8, acc.length ≤ 1 ∧ acc = [46] ∧ w1.ownsRow w.heap.size 5 1 v1 acc.length (acc.map bv) := ⟨[46], by decide, rfl, hown1⟩
    have HST := Lib.hid hst; clear hst
    have HB1 := Lib.hid hb1
    go_loopw [3, 5, 18] (fun o _ n wr => ∃ (k : Nat) (acc : List UInt8), k ≤ l.length ∧ n = .int .i64 k ∧ acc.length ≤ 7000 * k + 1 ∧ wr.ownsRow w.heap.size 5 1 o acc.length (acc.map bv) ∧ Hid (acc = preT l ++ (l.take k).flatMap stepT) ∧ Below w.heap.size w wr) (fun _ _ n _ => l.length - (intOf n).toNat)
    case atStart =>
      obtain ⟨acc, ha, hacc, hown⟩ := HST.out
      exact ⟨0, acc, Nat.zero_le _, rfl, by omega, hown, by unfold Hid; rw [hacc, HPR.out]; rfl, HB1.out⟩
    case round =>
      clear HST HB1 hb1 c0 hown1
      obtain ⟨k, acc, hk, rfl, hal, hown, HA2, hbw⟩ := hrel
      have hz := hbw.size
      by_cases hlt : k < l.length
      case neg =>
        obtain rfl : k = l.length := by omega
        have HX : Hid (textL l = acc) := by
          unfold Hid
          rw [HT.out, HA2.out, List.take_of_length_le (Nat.le_refl _)]
        clear HA2 HT HPR
        have hcv := conv_own bytesT hown
        go_wp2_with fail
        go_ret
        exact ⟨by rw [HX.out]; rfl, hbw⟩
      have hstep : ∀ cs, cs = stepT l[k] → Hid (acc ++ cs = preT l ++ (l.take (k + 1)).flatMap stepT) := by
        intro cs hcs
        unfold Hid
        rw [HA2.out, hcs, text_snoc l k hlt, List.append_assoc]
      have HS := Lib.hid hstep; clear hstep HA2
      obtain ⟨d0, d1, d2⟩ := HA.out k hlt
      have hs := okSt_at HOK.out k hlt
      rw [← hbw.cell (p := ⟨g, o + k * 3, none⟩) hg] at d0
      rw [← hbw.cell (p := ⟨g, o + k * 3 + 1, none⟩) hg] at d1
      rw [← hbw.cell (p := ⟨g, o + k * 3 + 2, none⟩) hg] at d2
      generalize l[k] = s at *
      obtain ⟨b, key, ix⟩ := s
      simp only [] at d0 d1 d2
      have hownC := hown.alloc (.cells #[.bool b, .string key, .int .i64 ix] 26)
      have hbwC : Below w.heap.size w (wr.alloc (.cells #[.bool b, .string key, .int .i64 ix] 26)) := hbw.alloc hz _
      have hzC := hbwC.size
      have HEC := Lib.hid (HE.out.below hbwC)
      have hg1 : g < wr.heap.size := by omega
      have HOC := Lib.hid hownC
      clear hown hownC
      cases b with
      | true =>
        rw [okSt_true, decide_eq_true_eq] at hs
        obtain ⟨_, hi0, hi1⟩ := hs
        have hle := itoa_len ix hi0 hi1
        have hi1' : Hid (ix ≤ 65536) := hi1
        clear hi1
        obtain ⟨H, hH⟩ : ∃ H : ByteArray, H = ⟨(Lib.itoa ix).toArray⟩ := ⟨_, rfl⟩
        have hLH : L H = Lib.itoa ix := by rw [hH]; rfl
        have hHs : H.size ≤ 5 := by rw [← L_len, hLH]; exact hle
        have hLT : L (⟨#[91]⟩ ++ H ++ ⟨#[93]⟩) = 91 :: (Lib.itoa ix ++ [93]) := by rw [L_append, L_append, hLH]; rfl
        have hTs : (⟨#[91]⟩ ++ H ++ ⟨#[93]⟩ : ByteArray).size ≤ 7 := by rw [← L_len, hLT]; simp only [List.length_cons, List.length_append, List.length_nil]; omega
        have HQ := HS.out (L (⟨#[91]⟩ ++ H ++ ⟨#[93]⟩)) (by rw [hLT]; rfl)
        have HC := Lib.hid (fun w' (h : Env w') => Itoa_any ix hi0 hi1'.out w' h)
        rw [← hH] at HC
        have HT7 := Lib.hid hTs
        have HLT7 : Hid ((L (⟨#[91]⟩ ++ H ++ ⟨#[93]⟩)).length ≤ 7) := by unfold Hid; rw [L_len]; exact hTs
        clear HS hH hLH hLT hTs hle
        go_wp2_with fail
        refine (HC.out _ HEC.out).mono ?_
        rintro e w2 ⟨rfl, hb2⟩
        have hown2 := own_below HOC.out hb2
        have hbw2 := hbwC.trans (hb2.mono hzC)
        have hz2 := hbw2.size
        have HS7 : Hid (acc.length + (⟨#[91]⟩ ++ H ++ ⟨#[93]⟩ : ByteArray).size < 100000000000000) := by have := HT7.out; unfold Hid; omega
        clear HOC HC hbwC hzC hb2
        go_wp2_with (at_builtin; refine wp_pushS bytesT rfl _ _ rfl hown2 (⟨#[91]⟩ ++ H ++ ⟨#[93]⟩) rfl rfl HS7.out hz2 ?_; intro v' w3 hown3 hg3 hb3)
        refine ⟨⟨k + 1, acc ++ L (⟨#[91]⟩ ++ H ++ ⟨#[93]⟩), by omega, rfl, ?_, ?_, HQ, hbw2.trans hb3⟩, by simp [intOf]; omega⟩
        · rw [List.length_append]; have := HLT7.out; omega
        · rw [List.length_append, L_len]; exact hown3
      | false =>
        rw [okSt_false, decide_eq_true_eq] at hs
        obtain ⟨rfl, hks, _⟩ := hs
        have hF : ∀ w', Calls Tryd.prog 33 #[.string key] w' fun e w'' => e = .returned (.int .i64 (folL (L key))) ∧ w'' = w' := fun w' => (follows_any key w' (by omega)).mono fun e w'' ⟨he, hw⟩ => ⟨he, hw.symm⟩
        have HF2 := Lib.hid hF; clear hF
        by_cases hnm : isName (L key) = true
        · have hnm' := hnm
          unfold isName at hnm'
          simp only [decide_eq_true_eq] at hnm'
          obtain ⟨hn0, hn1⟩ := hnm'
          have e1 : key.toList.isEmpty = false := by
            rw [Bool.eq_false_iff, ne_eq, neE, ← L_len]
            intro h
            exact hn0 (List.length_eq_zero_iff.1 h)
          have e2 : ((folL (L key) : Int) == key.size) = true := by rw [beq_iff_eq, hn1, L_len]
          have hLT : L (⟨#[46]⟩ ++ key) = 46 :: L key := by rw [L_append]; rfl
          have hTs : (⟨#[46]⟩ ++ key : ByteArray).size ≤ 1025 := by rw [ByteArray.size_append]; show 1 + _ ≤ _; omega
          have HQ := HS.out (L (⟨#[46]⟩ ++ key)) (by rw [hLT]; unfold stepT; simp [hnm])
          have HT7 := Lib.hid hTs
          clear HS hLT hnm hn0 hn1
          have HOD : Hid (∀ nq, ((wr.alloc (.cells #[.bool false, .string key, .int .i64 0] 26)).drewN nq).ownsRow w.heap.size 5 1 u3 acc.length (acc.map bv)) := fun nq => HOC.out
          have HBD : Hid (∀ nq, Below w.heap.size w ((wr.alloc (.cells #[.bool false, .string key, .int .i64 0] 26)).drewN nq)) := fun nq => ⟨hbwC.os, hbwC.tape, hbwC.output, hbwC.size, hbwC.block⟩
          have HS7 : Hid (acc.length + (⟨#[46]⟩ ++ key : ByteArray).size < 100000000000000) := by unfold Hid; omega
          clear HOC hbwC hzC hTs
          go_wp2_with fail
          go_quiet (first | (go_at_call 33; exact Calls.quiet_of_same (HF2.out _)))
          have hownD := HOD.out nq
          have hbwD := HBD.out nq
          have hzD := hbwD.size
          go_wp2_with (at_builtin; refine wp_pushS bytesT rfl _ _ rfl hownD (⟨#[46]⟩ ++ key) rfl rfl HS7.out hzD ?_; intro v' w3 hown3 hg3 hb3)
          refine ⟨⟨k + 1, acc ++ L (⟨#[46]⟩ ++ key), by omega, rfl, ?_, ?_, HQ, hbwD.trans hb3⟩, by simp [intOf]; omega⟩
          · rw [List.length_append, L_len]; have := HT7.out; omega
          · rw [List.length_append, L_len]; exact hown3
        · obtain ⟨Q, hQ⟩ : ∃ Q : ByteArray, Q = ⟨(quoteT (L key)).toArray⟩ := ⟨_, rfl⟩
          have hLQ : L Q = quoteT (L key) := by rw [hQ]; rfl
          have hf6 := flat_len6 (L key)
          rw [L_len] at hf6
          have hQs : Q.size ≤ 6146 := by rw [← L_len, hLQ]; unfold quoteT; simp only [List.length_cons, List.length_append, List.length_nil]; omega
          have hLT : L (⟨#[46]⟩ ++ Q) = 46 :: quoteT (L key) := by rw [L_append, hLQ]; rfl
          have hTs : (⟨#[46]⟩ ++ Q : ByteArray).size ≤ 6147 := by rw [ByteArray.size_append]; show 1 + _ ≤ _; omega
          have HQ := HS.out (L (⟨#[46]⟩ ++ Q)) (by rw [hLT]; unfold stepT quoteT; simp [hnm])
          have HC := Lib.hid (fun w' (h : Env w') => quote_any key w' (by omega) h)
          rw [← hQ] at HC
          have HT7 := Lib.hid hTs
          have HOD : Hid (∀ nq, ((wr.alloc (.cells #[.bool false, .string key, .int .i64 0] 26)).drewN nq).ownsRow w.heap.size 5 1 u3 acc.length (acc.map bv)) := fun nq => HOC.out
          have HBD : Hid (∀ nq, Below w.heap.size w ((wr.alloc (.cells #[.bool false, .string key, .int .i64 0] 26)).drewN nq)) := fun nq => ⟨hbwC.os, hbwC.tape, hbwC.output, hbwC.size, hbwC.block⟩
          have HS7 : Hid (acc.length + (⟨#[46]⟩ ++ Q : ByteArray).size < 100000000000000) := by unfold Hid; omega
          have key2 : (key.toList.isEmpty = true) ∨ (key.toList.isEmpty = false ∧ ((folL (L key) : Int) == key.size) = false) := by
            cases h1 : key.toList.isEmpty with
            | true => exact .inl rfl
            | false =>
              right
              refine ⟨rfl, ?_⟩
              rw [beq_eq_false_iff_ne]
              intro h2
              apply hnm
              unfold isName
              simp only [decide_eq_true_eq]
              refine ⟨fun h3 => ?_, by rw [L_len]; omega⟩
              have h4 : key.size = 0 := by rw [← L_len, h3]; rfl
              rw [neE.2 h4] at h1
              cases h1
          clear HS hQ hLQ hLT hTs hnm HOC hbwC hzC hf6
          rcases key2 with e1 | ⟨e1, e2⟩
          all_goals
            go_wp2_with fail
            go_quiet (first | (go_at_call 33; exact Calls.quiet_of_same (HF2.out _)))
            have hownD := HOD.out nq
            have hbwD := HBD.out nq
            have hzD := hbwD.size
            have HED := Lib.hid (HE.out.below hbwD)
            go_wp2_with fail
            refine (HC.out _ HED.out).mono ?_
            rintro e w2 ⟨rfl, hb2⟩
            have hown2 := own_below hownD hb2
            have hbw2 := hbwD.trans (hb2.mono hzD)
            have hz2 := hbw2.size
            clear hownD hbwD hzD hb2
            go_wp2_with (at_builtin; refine wp_pushS bytesT rfl _ _ rfl hown2 (⟨#[46]⟩ ++ Q) rfl rfl HS7.out hz2 ?_; intro v' w3 hown3 hg3 hb3)
            refine ⟨⟨k + 1, acc ++ L (⟨#[46]⟩ ++ Q), by omega, rfl, ?_, ?_, HQ, hbw2.trans hb3⟩, by simp [intOf]; omega⟩
            · rw [List.length_append, L_len]; have := HT7.out; omega
            · rw [List.length_append, L_len]; exact hown3
end Go.Proofs.YtjbhjnelepbkcaaDoor
