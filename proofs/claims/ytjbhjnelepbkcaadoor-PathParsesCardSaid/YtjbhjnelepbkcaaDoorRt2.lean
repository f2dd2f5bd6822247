/- datakitref08.Text walked: one, Text. Conditions: valid paths. -/
import Derived.Test.YtjbhjnelepbkcaaDoorRt1
namespace Go.Proofs.YtjbhjnelepbkcaaDoor
open Go.RowKit Go.Shelf
set_option maxHeartbeats 1000000
set_option maxRecDepth 100000

theorem one_any (s : St) (hs : okSt s = true) (w : World) :
    Calls Tryd.prog 38 #[stV s] w fun e w' => e = .returned (.string ⟨(stepT s).toArray⟩) ∧ Below w.heap.size w w' := by
  obtain ⟨b, key, ix⟩ := s
  simp only [stV]
  have hbx : ∀ o, Below w.heap.size w (w.alloc o) := fun o => (Below.refl _ w).alloc (Nat.le_refl _) o
  have HBX := Lib.hid hbx
  clear hbx
  cases b with
  | true =>
    rw [okSt_true, decide_eq_true_eq] at hs
    obtain ⟨_, h0, h1⟩ := hs
    have hle := itoa_len ix h0 h1
    obtain ⟨H, hH⟩ : ∃ H : ByteArray, H = ⟨(Lib.itoa ix).toArray⟩ := ⟨_, rfl⟩
    have hHs : H.size ≤ 5 := by rw [← L_len, hH]; exact hle
    have HN := Lib.hid (Number_any ix h0 h1)
    rw [← hH] at HN
    have HF : Hid ((⟨(stepT (true, key, ix)).toArray⟩ : ByteArray) = ⟨#[91]⟩ ++ H ++ ⟨#[93]⟩) := by
      unfold Hid
      apply L_inj
      rw [L_append, L_append, hH]
      rfl
    have h1' : Hid (ix ≤ 65536) := h1
    clear hH hle h1
    go_enter Tryd.func38, Tryd.ntmps38
    go_wp2_with fail
    refine (HN.out _).mono ?_
    rintro e w1 ⟨rfl, hb1⟩
    have hbw := (HBX.out _).trans (hb1.mono (HBX.out _).size)
    clear hb1
    go_wp2_with fail
    go_ret
    exact ⟨by rw [HF.out]; rfl, hbw⟩
  | false =>
    rw [okSt_false, decide_eq_true_eq] at hs
    obtain ⟨rfl, hks, _⟩ := hs
    have HNM := Lib.hid (fun w' => Name8_any key w' (by omega))
    cases hn : isName (L key)
    case true =>
      rw [hn] at HNM
      have HF : Hid ((⟨(stepT (false, key, 0)).toArray⟩ : ByteArray) = ⟨#[46]⟩ ++ key) := by
        unfold Hid
        apply L_inj
        rw [L_append]
        show stepT (false, key, 0) = _
        unfold stepT
        simp only [Bool.false_eq_true, if_false, hn, if_true]
        rfl
      clear hn
      go_enter Tryd.func38, Tryd.ntmps38
      go_wp2_with fail
      refine (HNM.out _).mono ?_
      rintro e w1 ⟨rfl, rfl⟩
      go_wp2_with fail
      go_ret
      exact ⟨by rw [HF.out]; rfl, HBX.out _⟩
    rw [hn] at HNM
    have HF : Hid (stepT (false, key, 0) = 46 :: 34 :: ((L key).flatMap sgn ++ [34])) := by
      unfold Hid stepT
      simp [hn]
    clear hn
    go_enter Tryd.func38, Tryd.ntmps38
    go_wp2_with fail
    refine (HNM.out _).mono ?_
    rintro e w1 ⟨rfl, rfl⟩
    have hcell := cell_of_alloc w #[.bool false, .string key, .int .i64 0] 26 1
    have hbw0 := HBX.out (.cells #[.bool false, .string key, .int .i64 0] 26)
    have hlt0 : w.heap.size < (w.alloc (.cells #[.bool false, .string key, .int .i64 0] 26)).heap.size := by simp
    simp only [show (#[Value.bool false, .string key, .int .i64 0] : Array Value)[1]? = some (.string key) from rfl] at hcell
    have HCL := Lib.hid hcell
    have HB0 := Lib.hid hbw0
    have HLT := Lib.hid hlt0
    clear hcell hbw0 hlt0
    go_wp2_with fail
    go_loopw [3, 4] (fun t i wr => ∃ (k : Nat) (acc : ByteArray), k ≤ key.size ∧ i = .int .i64 k ∧ t = .string acc ∧ acc.size ≤ 6 * k + 2 ∧ wr.cell? ⟨w.heap.size, 1, none⟩ = some (.string key) ∧ w.heap.size < wr.heap.size ∧ Hid (L acc = 46 :: 34 :: ((L key).take k).flatMap sgn) ∧ Below w.heap.size w wr) (fun _ i _ => key.size - (intOf i).toNat)
    case atStart => exact ⟨0, ⟨#[46, 34]⟩, Nat.zero_le _, rfl, rfl, by show 2 ≤ _; omega, HCL.out, HLT.out, rfl, HB0.out⟩
    case round =>
      clear HCL HB0 HLT
      obtain ⟨k, acc, hk, rfl, rfl, hal, hc, hlt, HA, hbw⟩ := hrel
      have hz := hbw.size
      by_cases hkk : k < key.size
      case neg =>
        obtain rfl : k = key.size := by omega
        have HX : Hid ((⟨(stepT (false, key, 0)).toArray⟩ : ByteArray) = acc ++ ⟨#[34]⟩) := by
          unfold Hid
          apply L_inj
          rw [L_append, HA.out, List.take_of_length_le (by rw [L_len]; exact Nat.le_refl _)]
          show stepT (false, key, 0) = _
          rw [HF.out]
          rfl
        clear HA HF
        go_wp2_with fail
        go_ret
        exact ⟨by rw [HX.out]; rfl, hbw⟩
      have HSG := Lib.hid (sign_any key[k] wr)
      obtain ⟨T, hT⟩ : ∃ T : ByteArray, T = ⟨(sgn key[k]).toArray⟩ := ⟨_, rfl⟩
      have hTs : T.size ≤ 6 := by rw [← L_len, hT]; exact sgn_len _
      have hLA : L (acc ++ T) = 46 :: 34 :: ((L key).take (k + 1)).flatMap sgn := by
        rw [L_append, HA.out, hT, take_snoc key k hkk]
        simp [L]
      have HLA := Lib.hid hLA
      rw [← hT] at HSG
      clear hT hLA HA
      go_wp2_with fail
      refine HSG.out.mono ?_
      rintro e w2 ⟨rfl, hb2⟩
      have hc2 : w2.cell? ⟨w.heap.size, 1, none⟩ = some (.string key) := by rw [hb2.cell (p := ⟨w.heap.size, 1, none⟩) hlt]; exact hc
      have hbw2 := hbw.trans (hb2.mono hz)
      have hlt2 : w.heap.size < w2.heap.size := Nat.lt_of_lt_of_le hlt hb2.size
      clear hc hb2 HSG
      go_wp2_with fail
      exact ⟨⟨k + 1, acc ++ T, by omega, rfl, rfl, by rw [ByteArray.size_append]; omega, hc2, hlt2, HLA, hbw2⟩, by simp [intOf]; omega⟩
theorem stepT_len (s : St) (hs : okSt s = true) : (stepT s).length ≤ 7000 := by
  obtain ⟨b, key, ix⟩ := s
  cases b with
  | true =>
    rw [okSt_true, decide_eq_true_eq] at hs
    have := itoa_len ix hs.2.1 hs.2.2
    show (91 :: (Lib.itoa ix ++ [93])).length ≤ _
    simp only [List.length_cons, List.length_append, List.length_nil]
    omega
  | false =>
    rw [okSt_false, decide_eq_true_eq] at hs
    have h6 := flat_len6 (L key)
    rw [L_len] at h6
    unfold stepT
    simp only [Bool.false_eq_true, if_false]
    split
    · simp only [List.length_cons, L_len]; omega
    · simp only [List.length_cons, List.length_append, List.length_nil]; omega
theorem RText_any (v : Value) (l : List St) (w : World) (h : Rd w v l) (hv : validP l = true) :
    Calls Tryd.prog 18 #[v] w fun e w' => e = .returned (.string ⟨(textL l).toArray⟩) ∧ Below w.heap.size w w' := by
  obtain ⟨a, cap, rfl, hcap, hmax, _, hl⟩ := h
  obtain ⟨hok, h48⟩ := all_ok hv
  clear hv
  by_cases h0 : l = []
  · subst h0
    clear hl
    go_enter Tryd.func18, Tryd.ntmps18
    go_wp2_with fail
    go_ret
    exact ⟨rfl, Below.refl _ _⟩
  have hlen : 0 < l.length := List.length_pos_iff.2 h0
  obtain ⟨g, o, rfl, hg, hat⟩ := hl h0
  obtain ⟨c0, c1, c2⟩ := hat 0 hlen
  simp only [Nat.zero_mul, Nat.add_zero] at c0
  clear c1 c2 hl
  have HT : Hid (textL l = preT l ++ l.flatMap stepT) := by unfold Hid textL; rw [if_neg (by simp [h0])]
  have HP : Hid (preT l = if l[0].1 then [46] else []) := by
    unfold Hid
    cases l with
    | nil => exact absurd rfl h0
    | cons s p => rfl
  have HA := Lib.hid hat; clear hat
  have HOK := Lib.hid hok; clear hok
  have hne0 : ((l.length : Int) == 0) = false := by rw [beq_eq_false_iff_ne]; omega
  clear h0
  obtain ⟨a0, ha0⟩ : ∃ a0 : ByteArray, a0 = if l[0].1 then ⟨#[46]⟩ else ⟨#[]⟩ := ⟨_, rfl⟩
  have HI : Hid (L a0 = preT l ∧ a0.size ≤ 1) := by
    unfold Hid
    rw [HP.out, ha0]
    cases l[0].1
    · exact ⟨rfl, Nat.zero_le _⟩
    · exact ⟨rfl, Nat.le_refl _⟩
  clear HP
  cases hb : l[0].1
  all_goals
    rw [hb] at c0 ha0
    simp only [if_true, Bool.false_eq_true, if_false] at ha0
    subst ha0
    clear hb
    go_enter Tryd.func18, Tryd.ntmps18
    go_wp2_with fail
    go_loopw [3, 4] (fun t i wr => ∃ (k : Nat) (acc : ByteArray), k ≤ l.length ∧ i = .int .i64 k ∧ t = .string acc ∧ acc.size ≤ 7000 * k + 1 ∧ Hid (L acc = preT l ++ (l.take k).flatMap stepT) ∧ Below w.heap.size w wr) (fun _ i _ => l.length - (intOf i).toNat)
    case atStart => exact ⟨0, _, Nat.zero_le _, rfl, rfl, by have := HI.out.2; omega, by unfold Hid; rw [HI.out.1]; simp, Below.refl _ _⟩
    case round =>
      clear HI c0
      obtain ⟨k, acc, hk, rfl, rfl, hal, HX, hbw⟩ := hrel
      have hz := hbw.size
      by_cases hlt : k < l.length
      case neg =>
        obtain rfl : k = l.length := by omega
        have HF : Hid ((⟨(textL l).toArray⟩ : ByteArray) = acc) := by
          unfold Hid
          apply L_inj
          rw [HX.out, List.take_of_length_le (Nat.le_refl _)]
          exact HT.out
        clear HX HT
        go_wp2_with fail
        go_ret
        exact ⟨by rw [HF.out]; rfl, hbw⟩
      obtain ⟨d0, d1, d2⟩ := HA.out k hlt
      have hs := okSt_at HOK.out k hlt
      have hsl := stepT_len _ hs
      have HON := Lib.hid (one_any l[k] hs wr)
      obtain ⟨T, hT⟩ : ∃ T : ByteArray, T = ⟨(stepT l[k]).toArray⟩ := ⟨_, rfl⟩
      have hTs : T.size ≤ 7000 := by rw [← L_len, hT]; exact hsl
      have HX2 : Hid (L (acc ++ T) = preT l ++ (l.take (k + 1)).flatMap stepT) := by
        unfold Hid
        rw [L_append, HX.out, hT, text_snoc l k hlt, List.append_assoc]
        rfl
      rw [← hT] at HON
      rw [← hbw.cell (p := ⟨g, o + k * 3, none⟩) hg] at d0
      rw [← hbw.cell (p := ⟨g, o + k * 3 + 1, none⟩) hg] at d1
      rw [← hbw.cell (p := ⟨g, o + k * 3 + 2, none⟩) hg] at d2
      clear hs hsl hT HX
      generalize l[k] = s at *
      obtain ⟨b, key, ix⟩ := s
      simp only [stV] at d0 d1 d2 HON
      go_wp2_with fail
      refine HON.out.mono ?_
      rintro e w2 ⟨rfl, hb2⟩
      have hbw2 := hbw.trans (hb2.mono hz)
      clear hb2 HON d0 d1 d2
      go_wp2_with fail
      exact ⟨⟨k + 1, acc ++ T, by omega, rfl, rfl, by rw [ByteArray.size_append]; omega, HX2, hbw2⟩, by simp [intOf]; omega⟩
end Go.Proofs.YtjbhjnelepbkcaaDoor
