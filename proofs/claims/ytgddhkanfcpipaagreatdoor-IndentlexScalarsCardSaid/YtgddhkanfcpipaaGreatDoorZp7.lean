/- base.Decode walked. Conditions: strings of at most 10^9 bytes. -/
import Derived.Test.YtgddhkanfcpipaaGreatDoorZp3
import Derived.Test.YtgddhkanfcpipaaGreatDoorZk18
import Derived.Deep.DeepCutAuto
import Derived.Deep.CutBlock
namespace Go.Proofs.YtgddhkanfcpipaaGreatDoor
open Go.RowKit
set_option maxHeartbeats 4000000
set_option maxRecDepth 100000

/-- What Decode hands back: the bytes, if it is a text. -/
def DecB (base : Nat) (l : List UInt8) (e : Ending) (w' : World) : Prop :=
  ∃ (v : Value) (n : Nat), e = .returned (.tuple #[v, .int .i64 (n : Int)]) ∧ (okB l → n = 0 ∧ w'.ownsRow base 5 1 v (bytB l).length ((bytB l).map bv)) ∧ (¬ okB l → n ≠ 0 ∧ v = .slice none 0 0)
theorem decB_no {base : Nat} {l : List UInt8} {w' : World} (n : Nat) (h : ¬ okB l) (hn : n ≠ 0) : DecB base l (.returned (.tuple #[.slice none 0 0, .int .i64 (n : Int)])) w' :=
  ⟨_, n, rfl, fun h' => absurd h' h, fun _ => ⟨hn, rfl⟩⟩
def bitsK (k : Nat) : Int := if k % 4 = 0 then 0 else if k % 4 = 1 then 6 else if k % 4 = 2 then 4 else 2
theorem runB_at (s : ByteArray) (k : Nat) (h : k < s.size) : runB ((L s).drop k) = if 0 ≤ b64 s[k] then runB ((L s).drop (k + 1)) + 1 else 0 := by
  rw [L_drop s k h]
  rfl
theorem run_dgs (s : ByteArray) (k : Nat) (h : k < s.size) : k < runB (L s) → 0 ≤ b64 s[k] := by
  have : ∀ (l : List UInt8) (k : Nat), k < runB l → ∃ c, l[k]? = some c ∧ 0 ≤ b64 c := by
    intro l
    induction l with
    | nil => intro k hk; exact absurd hk (Nat.not_lt_zero _)
    | cons c t ih =>
      intro k hk
      by_cases hc : 0 ≤ b64 c
      · cases k with
        | zero => exact ⟨c, rfl, hc⟩
        | succ k =>
          have e : runB (c :: t) = runB t + 1 := if_pos hc
          rw [e] at hk
          exact ih k (by omega)
      · have e : runB (c :: t) = 0 := if_neg hc
        rw [e] at hk
        exact absurd hk (Nat.not_lt_zero _)
  intro hk
  obtain ⟨c, h1, h2⟩ := this (L s) k hk
  rw [List.getElem?_eq_getElem (by rw [L_len]; exact h)] at h1
  rw [show s[k] = c from Option.some.inj h1]
  exact h2
def allQ : List UInt8 → Bool
  | [] => true
  | b :: t => decide (b.toNat = 61) && allQ t
theorem allQ_iff : ∀ l : List UInt8, allQ l = true → l = List.replicate l.length 61
  | [], _ => rfl
  | b :: t, h => by
    rw [allQ, Bool.and_eq_true, decide_eq_true_eq] at h
    rw [List.length_cons, List.replicate_succ, ← allQ_iff t h.2, UInt8.toNat_inj.1 (show b.toNat = (61 : UInt8).toNat from h.1)]
theorem allQ_rep : ∀ (n : Nat) (l : List UInt8), l = List.replicate n 61 → allQ l = true
  | 0, l, h => by rw [h]; rfl
  | n + 1, l, h => by
    rw [h, List.replicate_succ, allQ, allQ_rep n _ rfl]
    rfl
theorem byte_one (x : Int) (n : Nat) (h : x = (n : Int)) (hn : n < 256) : [Value.int .u8 x] = [UInt8.ofNat n].map bv := by
  rw [h]
  show [Value.int .u8 (n : Int)] = [Value.int .u8 ((UInt8.ofNat n).toNat : Int)]
  rw [ofn n hn]
theorem and_15 (lf d : Nat) (h : lf * 64 + d < 2097152) : bits .and .i64 ((lf : Int) * 64 + (d : Int)) 15 = ((d % 16 : Nat) : Int) := by
  have := and15 (lf * 64 + d) h
  rw [show ((lf : Int) * 64 + (d : Int)) = ((lf * 64 + d : Nat) : Int) by omega, this]
  omega
theorem and_3 (lf d : Nat) (h : lf * 64 + d < 2097152) : bits .and .i64 ((lf : Int) * 64 + (d : Int)) 3 = ((d % 4 : Nat) : Int) := by
  have : bits .and .i64 ((lf * 64 + d : Nat) : Int) 3 = (((lf * 64 + d) % 4 : Nat) : Int) := bits_mask .i64 63 (by decide) wraps_i64' 2 (by decide) _ (by omega) (by omega)
  rw [show ((lf : Int) * 64 + (d : Int)) = ((lf * 64 + d : Nat) : Int) by omega, this]
  omega
theorem and_0 (x : Int) : bits .and .i64 x 0 = 0 := by
  unfold bits
  simp
  exact wraps_i64' 0 (by omega) (by omega)
theorem or_zero : ∀ n : Fin 64, bits .or .i64 0 (n.val : Int) = (n.val : Int) := by decide +kernel
theorem or_dig (lf d : Nat) (h1 : lf < 64) (h2 : d < 64) : bits .or .i64 (wrap64 ((lf : Int) * 64)) (d : Int) = ((lf * 64 + d : Nat) : Int) := by
  have := or64 lf d (by omega)
  rw [show ((d : Int) % 64) = (d : Int) by omega] at this
  rw [this, Nat.mod_eq_of_lt h2]
theorem BDecode_any (s : ByteArray) (w : World) (hs : s.size ≤ 1000000000) :
    Calls Tryz.prog 42 #[.string s, .bool true] w fun e w' => DecB w.heap.size (L s) e w' ∧ Below w.heap.size w w' := by
  have hm : s.size ≤ maxLen := by simp only [maxLen]; omega
  have hKs := runB_le (L s)
  rw [L_len] at hKs
  obtain ⟨K, hK⟩ : ∃ K, K = runB (L s) := ⟨_, rfl⟩
  rw [← hK] at hKs
  have HK := Lib.hid hK
  have HK0 : Hid (K = 0 + runB ((L s).drop 0)) := by unfold Hid; rw [List.drop_zero, Nat.zero_add]; exact hK
  clear hK
  go_enter Tryz.func42, Tryz.ntmps42
  go_wp2_with fail
  refine (finder_any letB w).mono ?_
  rintro e w1 ⟨rfl, hc1, hz1, hb1⟩
  have HB1 := Lib.hid hb1
  have HC1 := Lib.hid hc1
  clear hb1 hc1
  go_wp2_with fail
  go_loopw [7] (fun v wr => ∃ k : Nat, v = .int .i64 (k : Int) ∧ k ≤ s.size ∧ Hid (K = k + runB ((L s).drop k)) ∧ w1 = wr) (fun v _ => s.size - (intOf v).toNat)
  case atStart => exact ⟨0, rfl, Nat.zero_le _, HK0.out, rfl⟩
  case round =>
    clear HK0
    obtain ⟨k, rfl, hks, HR, rfl⟩ := hrel
    have hk0 : (0 : Int) ≤ (k : Int) := by omega
    go_upto_region 3 with fail
    go_cut [27] (fun v wx => v = .bool (decide (0 < runB ((L s).drop k))) ∧ w1 = wx)
    case first =>
      clear HR
      by_cases hlt : k < s.size
      case neg =>
        have HF : Hid (decide (0 < runB ((L s).drop k)) = false) := by unfold Hid; rw [L_drop_nil s k (by omega)]; rfl
        go_wp2_with fail
        go_meet
        exact ⟨by rw [HF.out], rfl⟩
      have HP := Lib.hid (fun w' h => pos_any s[k] w.heap.size w' h)
      have hst := runB_at s k hlt
      by_cases hd : 0 ≤ b64 s[k]
      · have HF : Hid (decide (0 < runB ((L s).drop k)) = true) := by unfold Hid; rw [hst, if_pos hd]; exact decide_eq_true (by omega)
        clear hst
        generalize b64 s[k] = bd at *
        go_wp2_with (go_at_call 155; refine (HP.out _ HC1.out).mono ?_; rintro e w' ⟨rfl, rfl⟩)
        go_meet
        exact ⟨by rw [HF.out], rfl⟩
      · have HF : Hid (decide (0 < runB ((L s).drop k)) = false) := by unfold Hid; rw [hst, if_neg hd]; rfl
        clear hst
        generalize b64 s[k] = bd at *
        go_wp2_with (go_at_call 155; refine (HP.out _ HC1.out).mono ?_; rintro e w' ⟨rfl, rfl⟩)
        go_meet
        exact ⟨by rw [HF.out, decide_eq_false (by omega)], rfl⟩
    case rest =>
    obtain ⟨rfl, rfl⟩ := hcut
    by_cases hp : 0 < runB ((L s).drop k)
    · have hlt : k < s.size := by
        have := runB_le ((L s).drop k)
        rw [List.length_drop, L_len] at this
        omega
      have HN : Hid (K = (k + 1) + runB ((L s).drop (k + 1))) := by
        unfold Hid
        have h2 := runB_at s k hlt
        have h3 := HR.out
        by_cases hd : 0 ≤ b64 s[k]
        · rw [if_pos hd] at h2
          omega
        · rw [if_neg hd] at h2
          omega
      clear HR
      go_wp2_with fail
      exact ⟨⟨k + 1, by go_num, by omega, HN.out, trivial⟩, by simp [intOf]; omega⟩
    · have hkK : k = K := by have := HR.out; omega
      subst hkK
      clear HR
      obtain ⟨q, hqq⟩ : ∃ q, allQ ((L s).drop k) = q := ⟨_, rfl⟩
      have HQ := Lib.hid hqq
      rw [decide_eq_false hp]
      clear hqq hp
      go_wp2_with fail
      go_loopw [9] (fun v wr => ∃ i : Nat, v = .int .i64 (i : Int) ∧ k ≤ i ∧ i ≤ s.size ∧ Hid (q = allQ ((L s).drop i)) ∧ w1 = wr) (fun v _ => s.size - (intOf v).toNat)
      case atStart => exact ⟨k, rfl, Nat.le_refl _, hks, HQ.out.symm, rfl⟩
      case round =>
        obtain ⟨i, rfl, hki, his, HR, rfl⟩ := hrel
        have hi0 : (0 : Int) ≤ (i : Int) := by omega
        by_cases hlt : i < s.size
        case pos =>
          have hst := HR.out
          rw [L_drop s i hlt] at hst
          have hst2 : q = (decide (s[i].toNat = 61) && allQ ((L s).drop (i + 1))) := hst
          clear HR hst
          by_cases h61 : s[i].toNat = 61
          · have g1 := bneB s[i] 61 (by omega)
            have HN : Hid (q = allQ ((L s).drop (i + 1))) := by unfold Hid; rw [hst2, decide_eq_true h61]; rfl
            clear hst2 h61
            go_wp2_with fail
            exact ⟨⟨i + 1, by go_num, by omega, by omega, HN.out, trivial⟩, by simp [intOf]; omega⟩
          · have g1 := bneNB s[i] 61 (by omega)
            have hq : q = false := by rw [hst2, decide_eq_false h61]; rfl
            subst hq
            have HNO : Hid (¬ okB (L s)) := by
              unfold Hid
              rintro ⟨-, -, h3⟩
              rw [← HK.out] at h3
              have := allQ_rep _ _ h3
              rw [HQ.out] at this
              cases this
            clear hst2 h61 HQ HK
            go_wp2_with fail
            go_ret2
            exact ⟨decB_no 3 HNO.out (by decide), HB1.out⟩
        case neg =>
          obtain rfl : i = s.size := by omega
          have hq : q = true := by rw [HR.out, L_drop_nil s _ (Nat.le_refl _)]; rfl
          subst hq
          clear HR hlt hi0 his hki
          go_wp2_with fail
          go_loopw [10, 11, 12, 13, 50] (fun ov wv bv' _ iv wr => ∃ (i : Nat) (acc : List UInt8), iv = .int .i64 (i : Int) ∧ i ≤ k ∧ acc.length ≤ i ∧ wr.ownsRow w1.heap.size 5 1 ov acc.length (acc.map bv) ∧ Hid (acc = dcG (((L s).take i).map dg)) ∧ wv = .int .i64 (lefG (((L s).take i).map dg) : Nat) ∧ bv' = .int .i64 (bitsK i) ∧ Hid (Below w1.heap.size w1 wr)) (fun _ _ _ _ iv _ => k - (intOf iv).toNat)
          case atStart => exact ⟨0, [], rfl, Nat.zero_le _, Nat.le_refl _, World.ownsRow_nil _ _ _ _, rfl, rfl, rfl, Below.refl _ _⟩
          case round =>
            obtain ⟨i, acc, rfl, hik, hal, hown, HA, rfl, rfl, HBW⟩ := hrel
            have hi0 : (0 : Int) ≤ (i : Int) := by omega
            by_cases hlt : i < k
            case neg =>
              obtain rfl : i = k := by omega
              have HOWN := Lib.hid (own_low hown (Nat.le_of_lt hz1))
              have hlen : (((L s).take i).map dg).length = i := by rw [List.length_map, List.length_take, L_len]; omega
              have hall : ∀ n ∈ ((L s).take i).map dg, n < 64 := by
                intro n hn
                obtain ⟨c, -, rfl⟩ := List.mem_map.1 hn
                exact dg_lt c
              have hlf := lef_lt _ hall
              rw [hlen] at hlf
              have hb : bytB (L s) = acc := by
                unfold bytB
                rw [← HK.out, HA.out]
              have hok : okB (L s) ↔ (i % 4 ≠ 1 ∧ lefG (((L s).take i).map dg) = 0 ∧ s.size - i = (4 - i % 4) % 4) := by
                unfold okB
                rw [← HK.out]
                have h1 := allQ_iff _ HQ.out
                rw [List.length_drop, L_len] at h1
                refine and_congr Iff.rfl (and_congr Iff.rfl ⟨fun h => ?_, fun h => ?_⟩)
                · have := congrArg List.length h
                  rw [List.length_drop, L_len, List.length_replicate] at this
                  exact this
                · rw [h1, h]
              have HYES : Hid (okB (L s) → ∀ w', w'.ownsRow w.heap.size 5 1 u10 acc.length (acc.map bv) → DecB w.heap.size (L s) (.returned (.tuple #[u10, .int .i64 0])) w') := fun hk w' h => ⟨_, 0, rfl, fun _ => ⟨rfl, by rw [hb]; exact h⟩, fun h => absurd hk h⟩
              have HB2 := Lib.hid (HB1.out.trans (HBW.out.mono HB1.out.size))
              generalize lefG (((L s).take i).map dg) = lf at *
              clear hlen hall hb hown HA HQ HK hlt hik HBW
              have HOK := Lib.hid hok
              have HLF := Lib.hid hlf
              clear hok hlf
              go_upto_region 24 with fail
              have hr4 : i % 4 = 0 ∨ i % 4 = 1 ∨ i % 4 = 2 ∨ i % 4 = 3 := by omega
              obtain ⟨E, hE⟩ : ∃ E, E = s.size - i := ⟨_, rfl⟩
              have hE1 : ((s.size : Int) - (i : Int)) = (E : Int) := by omega
              rw [← hE] at HOK
              rw [hE1]
              clear hE hE1
              have hl0 : lf = 0 ∨ lf ≠ 0 := Decidable.em _
              have hE4 : E = 0 ∨ E = 1 ∨ E = 2 ∨ 3 ≤ E := by omega
              rcases hr4 with h4 | h4 | h4 | h4
              all_goals
                first
                  | rw [show ((i : Int) % 4) = 0 by omega]
                  | rw [show ((i : Int) % 4) = 1 by omega]
                  | rw [show ((i : Int) % 4) = 2 by omega]
                  | rw [show ((i : Int) % 4) = 3 by omega]
                rcases hl0 with rfl | hl
                all_goals
                  rcases hE4 with rfl | rfl | rfl | hE
                  all_goals
                    first
                      | (have hk : okB (L s) := HOK.out.2 ⟨by omega, rfl, by rw [h4]⟩
                         have HF := Lib.hid (HYES.out hk)
                         clear HYES HOK HLF hk h4
                         go_wp2_with fail
                         go_ret2
                         exact ⟨HF.out _ HOWN.out, HB2.out⟩)
                      | (have hk : ¬ okB (L s) := fun h => by
                           have h1 := HOK.out.1 h
                           rw [h4] at h1
                           omega
                         have HF := Lib.hid hk
                         try have q1 : ((lf : Int) != 0) = true := by rw [bne_iff_ne]; omega
                         try have q2 : ((0 : Int) < (E : Int)) = True := eq_true (by omega)
                         try have q6 : (0 < E) = True := eq_true (by omega)
                         try have q3 : ((2 : Int) < (E : Int)) = True := eq_true (by omega)
                         try have q4 : ((1 : Int) < (E : Int)) = True := eq_true (by omega)
                         try have q5 : ((E : Int) == 0) = false := by rw [beq_eq_false_iff_ne]; omega
                         try clear hE
                         try clear hl
                         clear HYES HOK HLF hk h4
                         go_wp2_with fail
                         go_ret2
                         first
                           | exact ⟨decB_no 3 HF.out (by decide), HB2.out⟩
                           | exact ⟨decB_no 4 HF.out (by decide), HB2.out⟩)
                      | (exfalso
                         have h1 := HLF.out
                         have h2 := h1.2.1 h4
                         omega)
            case pos =>
              have hls : i < s.size := by omega
              have hd0 := run_dgs s i hls (by rw [← HK.out]; exact hlt)
              have hdl := dg_lt s[i]
              have hde : b64 s[i] = ((dg s[i] : Nat) : Int) := by unfold dg; omega
              have HP := Lib.hid (fun w' h => pos_any s[i] w.heap.size w' h)
              rw [hde] at HP
              have hlen : (((L s).take i).map dg).length = i := by rw [List.length_map, List.length_take, L_len]; omega
              have hall : ∀ n ∈ ((L s).take i).map dg, n < 64 := by
                intro n hn
                obtain ⟨c, -, rfl⟩ := List.mem_map.1 hn
                exact dg_lt c
              have hsn := dec_snoc (((L s).take i).map dg) (dg s[i])
              have hlf := lef_lt _ hall
              rw [hlen] at hsn hlf
              have htk : ((L s).take (i + 1)).map dg = ((L s).take i).map dg ++ [dg s[i]] := by rw [L_take_succ s i hls, List.map_append]; rfl
              rw [← htk] at hsn
              have hcell := HC1.out
              have HC2 : Hid (wr.cell? ⟨w.heap.size, 0, none⟩ = some (.string letB)) := (HBW.out.cell (p := ⟨w.heap.size, 0, none⟩) hz1).trans hcell
              generalize dg s[i] = d at *
              have hA := HA.out
              rw [← hA] at hsn
              generalize lefG (((L s).take i).map dg) = lf at *
              obtain ⟨acc2, hacc2⟩ : ∃ x, x = dcG (((L s).take (i + 1)).map dg) := ⟨_, rfl⟩
              obtain ⟨lf2, hlf2⟩ : ∃ x, x = lefG (((L s).take (i + 1)).map dg) := ⟨_, rfl⟩
              rw [← hacc2, ← hlf2] at hsn
              have HA2 := Lib.hid hacc2
              have HL2 := Lib.hid hlf2
              clear hacc2 hlf2
              have hor := or_dig lf d hlf.1 hdl
              have HAL : Hid (acc.length < 100000000000) := by unfold Hid; omega
              have HBS : Hid (w1.heap.size ≤ wr.heap.size) := HBW.out.size
              have hr4 : i % 4 = 0 ∨ i % 4 = 1 ∨ i % 4 = 2 ∨ i % 4 = 3 := by omega
              rcases hr4 with h4 | h4 | h4 | h4
              · obtain ⟨e1, e2, e3⟩ := hsn.1 h4
                have b0 : bitsK i = 0 := if_pos h4
                have b1 : Hid (bitsK (i + 1) = 6) := by
                  unfold Hid bitsK
                  rw [if_neg (by omega), if_pos (by omega)]
                have HE1 := Lib.hid e1
                have HE2 := Lib.hid e2
                have HOWN := Lib.hid hown
                subst e3
                rw [b0]
                have hor0 : bits .or .i64 0 (d : Int) = (d : Int) := or_zero ⟨d, hdl⟩
                clear hor e1 e2 h4 hown hdl hsn hlf HA hA htk hlen hall hde hd0 hcell b0
                go_wp2_with (go_at_call 155; refine (HP.out _ HC2.out).mono ?_; rintro e w' ⟨rfl, rfl⟩)
                go_roundw
                case rel => exact ⟨i + 1, acc, by go_num, by omega, by omega, HOWN.out, HE1.out.symm.trans HA2.out, by rw [← HL2.out, HE2.out], by rw [b1.out], HBW.out⟩
                case measure => simp [intOf]; omega
              · obtain ⟨e1, e2⟩ := hsn.2.1 h4
                have b0 : bitsK i = 6 := by
                  unfold bitsK
                  rw [if_neg (by omega), if_pos h4]
                have b1 : Hid (bitsK (i + 1) = 4) := by
                  unfold Hid bitsK
                  rw [if_neg (by omega), if_neg (by omega), if_pos (by omega)]
                have HE1 := Lib.hid e1
                have HE2 := Lib.hid e2
                have HOWN := Lib.hid hown
                have HLF := Lib.hid (hlf.1)
                have HDL := Lib.hid hdl
                rw [b0]
                clear e1 e2 h4 hown hdl hsn hlf HA hA htk hlen hall hde hd0 hcell b0
                go_wp2_with (first
                  | (go_at_call 155; refine (HP.out _ HC2.out).mono ?_; rintro e w' ⟨rfl, rfl⟩)
                  | (at_builtin; refine wp_push elem_u8 rfl _ _ rfl HOWN.out [_] rfl (fun u hu => by rw [List.mem_singleton.1 hu]; rfl) rfl rfl HAL.out HBS.out ?_; intro v9 w9 hn9 hg9 hb9; have HO9 := Lib.hid hn9; have HB9 := Lib.hid hb9; clear hn9 hg9 hb9))
                have h1 := HLF.out
                have h2 := HDL.out
                refine ⟨⟨i + 1, acc2, by go_num, by omega, by rw [HE1.out, List.length_append]; exact Nat.succ_le_succ hal, ?_, HA2.out, ?_, by rw [b1.out], HBW.out.trans HB9.out⟩, by simp [intOf]; omega⟩
                · have h9 := HO9.out
                  rw [byte_one _ (lf * 4 + d / 16) (by omega) (by omega)] at h9
                  rw [HE1.out, List.length_append, List.map_append]
                  exact h9
                · rw [← HL2.out, HE2.out, and_15 lf d (by omega)]
              · obtain ⟨e1, e2⟩ := hsn.2.2.1 h4
                have b0 : bitsK i = 4 := by
                  unfold bitsK
                  rw [if_neg (by omega), if_neg (by omega), if_pos h4]
                have b1 : Hid (bitsK (i + 1) = 2) := by
                  unfold Hid bitsK
                  rw [if_neg (by omega), if_neg (by omega), if_neg (by omega)]
                have HE1 := Lib.hid e1
                have HE2 := Lib.hid e2
                have HOWN := Lib.hid hown
                have HLF := Lib.hid (hlf.2.2.1 h4)
                have HDL := Lib.hid hdl
                rw [b0]
                clear e1 e2 h4 hown hdl hsn hlf HA hA htk hlen hall hde hd0 hcell b0
                go_wp2_with (first
                  | (go_at_call 155; refine (HP.out _ HC2.out).mono ?_; rintro e w' ⟨rfl, rfl⟩)
                  | (at_builtin; refine wp_push elem_u8 rfl _ _ rfl HOWN.out [_] rfl (fun u hu => by rw [List.mem_singleton.1 hu]; rfl) rfl rfl HAL.out HBS.out ?_; intro v9 w9 hn9 hg9 hb9; have HO9 := Lib.hid hn9; have HB9 := Lib.hid hb9; clear hn9 hg9 hb9))
                have h1 := HLF.out
                have h2 := HDL.out
                refine ⟨⟨i + 1, acc2, by go_num, by omega, by rw [HE1.out, List.length_append]; exact Nat.succ_le_succ hal, ?_, HA2.out, ?_, by rw [b1.out], HBW.out.trans HB9.out⟩, by simp [intOf]; omega⟩
                · have h9 := HO9.out
                  rw [byte_one _ (lf * 16 + d / 4) (by omega) (by omega)] at h9
                  rw [HE1.out, List.length_append, List.map_append]
                  exact h9
                · rw [← HL2.out, HE2.out, and_3 lf d (by omega)]
              · obtain ⟨e1, e2⟩ := hsn.2.2.2 h4
                have b0 : bitsK i = 2 := by
                  unfold bitsK
                  rw [if_neg (by omega), if_neg (by omega), if_neg (by omega)]
                have b1 : Hid (bitsK (i + 1) = 0) := by
                  unfold Hid bitsK
                  rw [if_pos (by omega)]
                have HE1 := Lib.hid e1
                have HE2 := Lib.hid e2
                have HOWN := Lib.hid hown
                have HLF := Lib.hid (hlf.2.2.2 h4)
                have HDL := Lib.hid hdl
                rw [b0]
                clear e1 e2 h4 hown hdl hsn hlf HA hA htk hlen hall hde hd0 hcell b0
                go_wp2_with (first
                  | (go_at_call 155; refine (HP.out _ HC2.out).mono ?_; rintro e w' ⟨rfl, rfl⟩)
                  | (at_builtin; refine wp_push elem_u8 rfl _ _ rfl HOWN.out [_] rfl (fun u hu => by rw [List.mem_singleton.1 hu]; rfl) rfl rfl HAL.out HBS.out ?_; intro v9 w9 hn9 hg9 hb9; have HO9 := Lib.hid hn9; have HB9 := Lib.hid hb9; clear hn9 hg9 hb9))
                have h1 := HLF.out
                have h2 := HDL.out
                refine ⟨⟨i + 1, acc2, by go_num, by omega, by rw [HE1.out, List.length_append]; exact Nat.succ_le_succ hal, ?_, HA2.out, ?_, by rw [b1.out], HBW.out.trans HB9.out⟩, by simp [intOf]; omega⟩
                · have h9 := HO9.out
                  rw [byte_one _ (lf * 64 + d) (by omega) (by omega)] at h9
                  rw [HE1.out, List.length_append, List.map_append]
                  exact h9
                · rw [← HL2.out, HE2.out, and_0]
                  rfl
end Go.Proofs.YtgddhkanfcpipaaGreatDoor
