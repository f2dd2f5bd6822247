/- datakitref08.Parse walked. Conditions: strings of at most 10^9 bytes. -/
import Derived.Test.YtjbhjnelepbkcaaDoorPr2
import Derived.Test.YtjbhjnelepbkcaaDoorRt2
namespace Go.Proofs.YtjbhjnelepbkcaaDoor
open Go.RowKit Go.Shelf
set_option maxHeartbeats 2000000
set_option maxRecDepth 100000

theorem stepR_le (l : List UInt8) (r : St × Nat) (h : stepR l = some r) : 1 ≤ r.2 ∧ r.2 ≤ l.length := by
  rcases l with _ | ⟨c, t⟩
  · cases h
  rw [stepR_cons] at h
  have hd := (digR_le 8 0 t).1
  split at h
  · split at h
    · cases h
    · rename_i hn
      rw [not_or] at hn
      have h2 := Classical.not_not.1 hn.2
      rw [List.getElem?_eq_some_iff] at h2
      obtain ⟨h2, _⟩ := h2
      cases h
      simp only [List.length_cons]
      omega
  split at h
  · cases h
  split at h
  · split at h
    · rename_i x hq
      have := quoF_le _ _ _ hq
      rw [List.length_drop] at this
      cases h
      simp only [List.length_cons]
      rename_i h3 _
      have : 1 ≤ t.length := by
        rcases t with _ | ⟨b, t⟩
        · cases h3
        · simp
      omega
    · cases h
  · have := nmL_le t
    cases h
    simp only [List.length_cons]
    omega
theorem RParse_any (s : ByteArray) (w : World) (hs : s.size ≤ 1000000000) :
    Calls Tryd.prog 20 #[.string s] w (ParPost w (parseL (L s))) := by
  rw [← parse_same]
  have HC := Lib.hid (fun w' => Valid3_any s w' (by omega))
  by_cases hb : badL (L s) = (L s).length
  case neg =>
    have hv : validL (L s) = false := decide_eq_false hb
    have HF : Hid (parseR (L s) = ([], 5)) := by unfold Hid parseR; rw [if_pos hb]
    rw [hv] at HC
    clear hb hv
    go_enter Tryd.func20, Tryd.ntmps20
    go_wp2_with fail
    refine (HC.out _).mono ?_
    rintro e w1 ⟨rfl, hb1⟩
    go_wp2_with fail
    go_ret2
    exact ParPost_none HF.out hb1
  have hv : validL (L s) = true := decide_eq_true hb
  rw [hv] at HC
  by_cases h46 : L s = [46]
  · have e46 : (s.toList == [46]) = true := by rw [beq46]; exact decide_eq_true h46
    have HF : Hid (parseR (L s) = ([], 0)) := by unfold Hid parseR; rw [if_neg (by omega), if_pos h46]
    clear hb hv h46
    go_enter Tryd.func20, Tryd.ntmps20
    go_wp2_with fail
    refine (HC.out _).mono ?_
    rintro e w1 ⟨rfl, hb1⟩
    go_wp2_with fail
    go_ret2
    exact ParPost_none HF.out hb1
  have e46 : (s.toList == [46]) = false := by rw [beq46]; exact decide_eq_false h46
  have HF : Hid (parseR (L s) = acceptR (L s) (loopR 49 0 (strip (L s)))) := by unfold Hid parseR; rw [if_neg (by omega), if_neg h46]
  clear hb hv h46
  obtain ⟨r0, hr0⟩ : ∃ r0 : ByteArray, L r0 = strip (L s) := ⟨⟨(strip (L s)).toArray⟩, rfl⟩
  have HR0 := Lib.hid hr0
  have hr0s : r0.size ≤ s.size := by
    have h := congrArg List.length hr0
    have h2 : (strip (L s)).length ≤ (L s).length := by unfold strip; split <;> simp
    rw [L_len] at h h2
    omega
  have t2 : ∀ h : 1 < s.size, (L s).take 2 = [s[0], s[1]] := by
    intro h
    rw [L_take_succ s 1 h, L_take_succ s 0 (by omega)]
    rfl
  obtain ⟨B, hB⟩ : ∃ B, decide ((L s).take 2 = [46, 91]) = B := ⟨_, rfl⟩
  have hr0e : r0 = if B then s.extract 1 s.size else s := by
    refine L_inj ?_
    rw [hr0]
    unfold strip
    cases B
    · rw [if_neg (of_decide_eq_false hB)]; rfl
    · rw [if_pos (of_decide_eq_true hB)]; exact (L_from s 1).symm
  have HN : Hid (s.size ≤ 1 → B = false) := by
    intro h
    rw [← hB, decide_eq_false_iff_not]
    intro h3
    have := congrArg List.length h3
    rw [List.length_take, L_len] at this
    simp at this
    omega
  have H0 : Hid (∀ h : 1 < s.size, s[0].toNat ≠ 46 → B = false) := by
    intro h h2
    rw [← hB, decide_eq_false_iff_not, t2 h]
    intro h3
    simp only [List.cons.injEq] at h3
    exact h2 (by rw [h3.1]; rfl)
  have H1 : Hid (∀ h : 1 < s.size, s[0].toNat = 46 → ((s[1].toNat : Int) == 91) = B) := by
    intro h h2
    rw [← hB, t2 h, u8_of h2]
    by_cases h3 : s[1].toNat = 91
    · rw [u8_of h3]; rfl
    · rw [decide_eq_false, beqNB _ _ (by omega)]
      intro h4
      simp only [List.cons.injEq] at h4
      exact h3 (by rw [h4.2.1]; rfl)
  have HB1 : Hid (B = true → 1 < s.size) := by
    intro h
    rw [h] at hB
    have := congrArg List.length (of_decide_eq_true hB)
    rw [List.length_take, L_len] at this
    simp at this
    omega
  clear hB
  clear t2 hr0
  go_enter Tryd.func20, Tryd.ntmps20
  go_wp2_with fail
  refine (HC.out _).mono ?_
  rintro e w1 ⟨rfl, hb1⟩
  go_upto_region 7 with fail
  go_cut [26] (fun v wx => v = .bool B ∧ w1 = wx)
  case first =>
    go_wp2_with fail
    all_goals
      go_meet
      refine ⟨congrArg Value.bool ?_, rfl⟩
      first
        | exact (HN.out (by omega)).symm
        | exact H1.out (by omega) (by omega)
        | exact (H0.out (by omega) (by omega)).symm
  case rest =>
    obtain ⟨rfl, rfl⟩ := hcut
    clear HN H0 H1
    go_upto_if 26 with fail
    go_cut [5] (fun v wx => v = .string r0 ∧ w1 = wx)
    case first =>
      cases B
      · simp only [Bool.false_eq_true, if_false] at hr0e
        go_wp2_with fail
        go_meet
        exact ⟨by rw [hr0e], rfl⟩
      · simp only [if_true] at hr0e
        have h1s := HB1.out rfl
        go_wp2_with fail
        go_meet
        exact ⟨by rw [hr0e], rfl⟩
    case rest =>
      obtain ⟨rfl, rfl⟩ := hcut
      clear hr0e HB1
      go_wp2_with fail
      go_loopw [4, 5, 6, 7] (fun o re _ _ wr => ∃ (k : Nat) (r : ByteArray) (acc : List St), k ≤ 48 ∧ acc.length = k ∧ re = .string r ∧ r.size ≤ 1000000000 ∧ wr.ownsRow w.heap.size 26 3 o k (acc.flatMap stk) ∧ Hid (loopR 49 0 (strip (L s)) = (loopR (49 - k) k (L r)).map fun p => acc ++ p) ∧ Below w.heap.size w wr) (fun _ re _ _ _ => match re with | .string r => r.size | _ => 0)
      case atStart =>
        refine ⟨0, r0, [], by omega, rfl, rfl, by omega, World.ownsRow_nil _ _ _ _, ?_, hb1⟩
        unfold Hid; rw [HR0.out]; simp
      case round =>
        clear HR0
        obtain ⟨k, r, acc, hk, hal, rfl, hrs, hown, HLR, hbw⟩ := hrel
        obtain ⟨A, cap, rfl⟩ := own_form hown
        have hz := hbw.size
        by_cases h0 : r.size = 0
        · have HX : Hid (parseR (L s) = acceptR (L s) (some acc)) := by
            have h2 : L r = [] := List.length_eq_zero_iff.1 (by rw [L_len]; exact h0)
            unfold Hid
            rw [HF.out, HLR.out, h2, show 49 - k = (48 - k) + 1 by omega, loopR, if_pos rfl]
            simp
          have e0 : ¬ (0 : Int) < r.size := by omega
          have hown' : wr.ownsRow w.heap.size 26 3 (.slice A k cap) acc.length (acc.flatMap stk) := by rw [hal]; exact hown
          have HO := Lib.hid hown'
          have HRD := Lib.hid (Rd.of_own hown')
          have HRV := Lib.hid (RValid_any _ acc wr HRD.out)
          clear hown hown' HLR HF h0
          cases hva : validP acc with
          | false =>
            rw [hva] at HRV
            have HF2 : Hid (parseR (L s) = ([], 3)) := by
              unfold Hid
              rw [HX.out]
              unfold acceptR
              simp [hva]
            clear HX hva
            go_wp2_with fail
            refine (HRV.out).mono ?_
            rintro e w2 ⟨rfl, hb2⟩
            go_wp2_with fail
            go_ret2
            exact ParPost_none HF2.out (hbw.trans (hb2.mono hz))
          | true =>
            rw [hva] at HRV
            have HTX := Lib.hid (fun w' (h : Rd w' (.slice A k cap) acc) => RText_any _ acc w' h hva)
            obtain ⟨T, hT⟩ : ∃ T : ByteArray, T = ⟨(textL acc).toArray⟩ := ⟨_, rfl⟩
            rw [← hT] at HTX
            have hLT : L T = textL acc := by rw [hT]; rfl
            have HX2 : Hid (parseR (L s) = if L T = L s then (acc, 0) else ([], 3)) := by
              unfold Hid
              rw [HX.out, hLT]
              simp only [acceptR, hva, true_and]
            clear HX hva hT hLT
            cases hB : (T.toList == s.toList) with
            | true =>
              have HF2 : Hid (parseR (L s) = (acc, 0)) := by
                unfold Hid
                rw [HX2.out, if_pos]
                rw [beq_iff_eq, toList_L, toList_L] at hB
                exact hB
              clear HX2
              go_wp2_with fail
              refine (HRV.out).mono ?_
              rintro e w2 ⟨rfl, hb2⟩
              go_wp2_with fail
              refine (HTX.out w2 (HRD.out.below hb2)).mono ?_
              rintro e w3 ⟨rfl, hb3⟩
              have hb23 := hb2.trans (hb3.mono hb2.size)
              have hown3 := own_below HO.out hb23
              have hbw3 := hbw.trans (hb23.mono hz)
              have HFI : Hid (ParPost w (parseR (L s)) (.returned (.tuple #[.slice A k cap, .int .i64 0])) w3) := by
                unfold Hid ParPost
                rw [HF2.out]
                exact ⟨_, rfl, hown3, hbw3⟩
              clear hown3 hbw3 hb2 hb3 hb23 HF2
              go_wp2_with fail
              go_ret2
              exact HFI.out
            | false =>
              have HF2 : Hid (parseR (L s) = ([], 3)) := by
                unfold Hid
                rw [HX2.out, if_neg]
                intro h
                rw [toList_L, toList_L, h] at hB
                simp at hB
              clear HX2
              go_wp2_with fail
              refine (HRV.out).mono ?_
              rintro e w2 ⟨rfl, hb2⟩
              go_wp2_with fail
              refine (HTX.out w2 (HRD.out.below hb2)).mono ?_
              rintro e w3 ⟨rfl, hb3⟩
              have hb23 := hb2.trans (hb3.mono hb2.size)
              have hbw3 := hbw.trans (hb23.mono hz)
              clear hb2 hb3 hb23
              go_wp2_with fail
              go_ret2
              exact ParPost_none HF2.out hbw3
        · have e0 : (0 : Int) < r.size := by omega
          have hne : ¬ L r = [] := fun h => h0 (by rw [← L_len, h]; rfl)
          have HL2 : Hid (∀ o, stepR (L r) = o → loopR 49 0 (strip (L s)) = (match o with
            | some x => if 48 ≤ k then none else (loopR (49 - (k + 1)) (k + 1) ((L r).drop x.2)).map fun p => x.1 :: p
            | none => none).map fun p => acc ++ p) := by
            intro o ho
            rw [HLR.out, show 49 - k = (49 - (k + 1)) + 1 by omega, loopR, if_neg hne, ho]
            cases o <;> rfl
          have HS := Lib.hid (fun w' => step_any r w' (by omega) (by omega))
          have hle := stepR_le (L r)
          rw [L_len] at hle
          clear HLR hne h0
          cases hst : stepR (L r) with
          | none =>
            rw [hst] at HS
            have HS2 : Hid (∀ w', Calls Tryd.prog 39 #[.string r] w' fun e w'' => e = .returned (.tuple #[.agg #[.bool false, .string ⟨#[]⟩, .int .i64 0], .int .i64 0]) ∧ Below w'.heap.size w' w'') := HS.out
            have HF2 : Hid (parseR (L s) = ([], 3)) := by
              unfold Hid
              rw [HF.out, HL2.out _ hst]
              rfl
            clear HS HL2 hst hle HF hown
            go_wp2_with fail
            refine (HS2.out _).mono ?_
            rintro e w2 ⟨rfl, hb2⟩
            have hbw2 := hbw.trans (hb2.mono hz)
            clear hb2
            go_wp2_with fail
            go_ret2
            exact ParPost_none HF2.out (hbw2.alloc hbw2.size _)
          | some x =>
            obtain ⟨⟨sb, sk, si⟩, n⟩ := x
            obtain ⟨hn1, hn2⟩ := hle _ hst
            simp only [] at hn1 hn2
            rw [hst] at HS
            have HS2 : Hid (∀ w', Calls Tryd.prog 39 #[.string r] w' fun e w'' => e = .returned (.tuple #[.agg #[.bool sb, .string sk, .int .i64 si], .int .i64 (n : Int)]) ∧ Below w'.heap.size w' w'') := HS.out
            have HL3 := Lib.hid (HL2.out _ hst)
            have en : ((n : Int) == 0) = false := beq_eq_false_iff_ne.2 (by omega)
            clear HS HL2 hst hle
            by_cases hk48 : 48 ≤ k
            · have HF2 : Hid (parseR (L s) = ([], 3)) := by
                unfold Hid
                rw [HF.out, HL3.out]
                simp only []
                rw [if_pos hk48]
                rfl
              have ek : (48 : Int) ≤ k := by omega
              clear HL3 HF hown hk48
              go_wp2_with fail
              refine (HS2.out _).mono ?_
              rintro e w2 ⟨rfl, hb2⟩
              have hbw2 := hbw.trans (hb2.mono hz)
              clear hb2
              go_wp2_with fail
              go_ret2
              exact ParPost_none HF2.out (hbw2.alloc hbw2.size _)
            · have HR2 : Hid (loopR 49 0 (strip (L s)) = (loopR (49 - (k + 1)) (k + 1) (L (r.extract n r.size))).map fun p => (acc ++ [(sb, sk, si)]) ++ p) := by
                unfold Hid
                rw [HL3.out, L_from]
                simp only []
                rw [if_neg hk48, Option.map_map]
                congr 1
                funext p
                simp
              have ek : ¬ (48 : Int) ≤ k := by omega
              have hrz : (r.extract n r.size).size = r.size - n := by rw [ByteArray.size_extract]; omega
              clear HL3 hk48
              go_wp2_with fail
              refine (HS2.out _).mono ?_
              rintro e w2 ⟨rfl, hb2⟩
              have hbw2 := hbw.trans (hb2.mono hz)
              have hown2 := own_below hown hb2
              have hz2 := hbw2.size
              clear hb2 hown
              go_wp2_with (at_builtin; refine wp_pushG elem_step rfl _ _ rfl (hown2.alloc _) (stk (sb, sk, si)) rfl (stk_one _) rfl (w2.heap.size + 1) (by simp) rfl (by omega) (by simp; omega) ?_; intro v' w3 hown3 hg3 hb3)
              refine ⟨⟨k + 1, r.extract n r.size, acc ++ [(sb, sk, si)], by omega, by simp; omega, rfl, by omega, by rw [List.flatMap_append]; simpa using hown3, HR2, (hbw2.alloc hz2 _).trans hb3⟩, ?_⟩
              show (r.extract n r.size).size < r.size
              omega
end Go.Proofs.YtjbhjnelepbkcaaDoor
