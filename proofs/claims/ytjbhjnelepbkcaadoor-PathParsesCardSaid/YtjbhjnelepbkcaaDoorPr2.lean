/- datakitref08.step walked. Conditions: strings of 1 to 10^9 bytes. -/
import Derived.Test.YtjbhjnelepbkcaaDoorPr1
namespace Go.Proofs.YtjbhjnelepbkcaaDoor
open Go.RowKit Go.Shelf
set_option maxHeartbeats 2000000
set_option maxRecDepth 100000

theorem KeyR_any (t : ByteArray) (w : World) : Calls Tryd.prog 13 #[.string t] w fun e w' => e = .returned (.agg #[.bool false, .string t, .int .i64 0]) ∧ Below w.heap.size w w' := by
  go_enter Tryd.func13, Tryd.ntmps13
  go_wp2_with fail
  exact bodyPost_ret (v := .agg #[.bool false, .string t, .int .i64 0]) (by simp [results, Tryd.results13, go_sem]) rfl ⟨rfl, (Below.refl _ w).alloc (Nat.le_refl _) _⟩
theorem AtR_any (n : Int) (w : World) : Calls Tryd.prog 15 #[.int .i64 n] w fun e w' => e = .returned (.agg #[.bool true, .string ⟨#[]⟩, .int .i64 n]) ∧ Below w.heap.size w w' := by
  go_enter Tryd.func15, Tryd.ntmps15
  go_wp2_with fail
  exact bodyPost_ret (v := .agg #[.bool true, .string ⟨#[]⟩, .int .i64 n]) (by simp [results, Tryd.results15, go_sem]) rfl ⟨rfl, (Below.refl _ w).alloc (Nat.le_refl _) _⟩
theorem digR_le : ∀ (f acc : Nat) (l : List UInt8), (digR acc f l).2 ≤ l.length ∧ (digR acc f l).2 ≤ f
  | 0, _, _ => by unfold digR; exact ⟨Nat.zero_le _, Nat.le_refl _⟩
  | _ + 1, _, [] => by unfold digR; exact ⟨Nat.zero_le _, Nat.zero_le _⟩
  | f + 1, acc, b :: t => by
    have h := digR_le f (10 * acc + (b.toNat - 48)) t
    unfold digR
    split
    · simp only [List.length_cons]; omega
    · exact ⟨Nat.zero_le _, Nat.zero_le _⟩
theorem quoF_le : ∀ (f : Nat) (l : List UInt8) (r : List UInt8 × Nat), quoF f l = some r → r.2 ≤ l.length
  | 0, _, _, h => by cases h
  | _ + 1, [], _, h => by cases h
  | f + 1, b :: t, r, h => by
    rw [quoF_cons] at h
    have hu := (unsR_lt (b :: t)).2
    split at h
    · cases h; simp
    split at h
    · cases h
    · cases hq : quoF f ((b :: t).drop (unsR (b :: t)).2) with
      | none => rw [hq] at h; cases h
      | some x =>
        rw [hq] at h
        cases h
        have := quoF_le f _ x hq
        rw [List.length_drop] at this
        simp only [] at *
        omega
def qstep (o : Option (List UInt8 × Nat)) : Option (St × Nat) := match o with
  | some r => some ((false, ⟨r.1.toArray⟩, 0), r.2 + 2)
  | none => none
def stepV (o : Option (St × Nat)) : Value := match o with
  | some r => .tuple #[stV r.1, .int .i64 (r.2 : Int)]
  | none => .tuple #[stV (false, ⟨#[]⟩, 0), .int .i64 0]
theorem res_cells {w w1 : World} (hb : Below (w.alloc (.cells #[.bool false, .string ⟨#[]⟩, .int .i64 0] 26)).heap.size (w.alloc (.cells #[.bool false, .string ⟨#[]⟩, .int .i64 0] 26)) w1) :
    (w1.cell? ⟨w.heap.size, 0, none⟩ = some (.bool false) ∧ w1.cell? ⟨w.heap.size, 1, none⟩ = some (.string ⟨#[]⟩) ∧ w1.cell? ⟨w.heap.size, 2, none⟩ = some (.int .i64 0)) ∧
    (w1.frozen? ⟨w.heap.size, 0, none⟩ = false ∧ w1.frozen? ⟨w.heap.size, 1, none⟩ = false ∧ w1.frozen? ⟨w.heap.size, 2, none⟩ = false) := by
  have hs : w.heap.size < (w.alloc (.cells #[.bool false, .string ⟨#[]⟩, .int .i64 0] 26)).heap.size := by simp
  refine ⟨⟨?_, ?_, ?_⟩, ?_, ?_, ?_⟩
  · rw [hb.cell hs, cell_of_alloc]; rfl
  · rw [hb.cell hs, cell_of_alloc]; rfl
  · rw [hb.cell hs, cell_of_alloc]; rfl
  · rw [hb.frozen hs]; simp
  · rw [hb.frozen hs]; simp
  · rw [hb.frozen hs]; simp
theorem set3 (w : World) (g : Nat) {x y z : Value} (h0 : w.cell? ⟨g, 0, none⟩ = some x) (h1 : w.cell? ⟨g, 1, none⟩ = some y) (h2 : w.cell? ⟨g, 2, none⟩ = some z) (a b c : Value) :
    (((w.setCell ⟨g, 0, none⟩ a).setCell ⟨g, 1, none⟩ b).setCell ⟨g, 2, none⟩ c).cell? ⟨g, 0, none⟩ = some a ∧ (((w.setCell ⟨g, 0, none⟩ a).setCell ⟨g, 1, none⟩ b).setCell ⟨g, 2, none⟩ c).cell? ⟨g, 1, none⟩ = some b ∧ (((w.setCell ⟨g, 0, none⟩ a).setCell ⟨g, 1, none⟩ b).setCell ⟨g, 2, none⟩ c).cell? ⟨g, 2, none⟩ = some c := by
  have n01 : (⟨g, 0, none⟩ : Addr) ≠ ⟨g, 1, none⟩ := by simp
  have n02 : (⟨g, 0, none⟩ : Addr) ≠ ⟨g, 2, none⟩ := by simp
  have n12 : (⟨g, 1, none⟩ : Addr) ≠ ⟨g, 2, none⟩ := by simp
  refine ⟨?_, ?_, ?_⟩
  · rw [World.cell?_setCell_other (h := n02.symm), World.cell?_setCell_other (h := n01.symm)]
    exact World.cell?_setCell_same _ _ _ h0
  · rw [World.cell?_setCell_other (h := n12.symm)]
    exact World.cell?_setCell_same _ _ _ ((World.cell?_setCell_other _ _ _ _ n01).trans h1)
  · exact World.cell?_setCell_same _ _ _ ((World.cell?_setCell_other _ _ _ _ n12).trans ((World.cell?_setCell_other _ _ _ _ n02).trans h2))
theorem step_any (s : ByteArray) (w : World) (h1 : 1 ≤ s.size) (hs : s.size ≤ 1000000000) :
    Calls Tryd.prog 39 #[.string s] w fun e w' => e = .returned (stepV (stepR (L s))) ∧ Below w.heap.size w w' := by
  have hp : 0 < s.size := by omega
  have hd := L_drop s 0 hp
  rw [List.drop_zero] at hd
  have HX := Lib.hid (stepR_cons s[0] ((L s).drop 1))
  rw [← hd] at HX
  by_cases c1 : s[0].toNat = 91
  · have e1 : ((s[0].toNat : Int) == 91) = true := beqB _ _ (by omega)
    have HX1 : Hid (stepR (L s) = if (digR 0 8 ((L s).drop 1)).2 = 0 ∨ ((L s).drop 1)[(digR 0 8 ((L s).drop 1)).2]? ≠ some 93 then none else some ((true, ⟨#[]⟩, ((digR 0 8 ((L s).drop 1)).1 : Int)), (digR 0 8 ((L s).drop 1)).2 + 2)) := by
      unfold Hid; rw [HX.out, if_pos c1]
    clear HX c1 hd
    go_enter Tryd.func39, Tryd.ntmps39
    go_wp2_with fail
    go_loopw [4, 5] (fun j v wr => ∃ k acc : Nat, 1 ≤ k ∧ k ≤ 9 ∧ k ≤ s.size ∧ j = .int .i64 k ∧ v = .int .i64 acc ∧ acc < 10 ^ (k - 1) ∧ Hid (digR 0 8 ((L s).drop 1) = ((digR acc (9 - k) ((L s).drop k)).1, (digR acc (9 - k) ((L s).drop k)).2 + (k - 1))) ∧ wr = w.alloc (.cells #[.bool false, .string ⟨#[]⟩, .int .i64 0] 26)) (fun j _ _ => 9 - (intOf j).toNat)
    case atStart => exact ⟨1, 0, by omega, by omega, by omega, rfl, rfl, by decide, rfl, rfl⟩
    case round =>
      obtain ⟨k, acc, hk1, hk9, hk, rfl, rfl, hacc, HR, rfl⟩ := hrel
      have hbw : Below w.heap.size w (w.alloc (.cells #[.bool false, .string ⟨#[]⟩, .int .i64 0] 26)) := (Below.refl _ w).alloc (Nat.le_refl _) _
      have ha9 : acc < 100000000 := Nat.lt_of_lt_of_le hacc (Nat.pow_le_pow_right (by decide) (by omega : k - 1 ≤ 8))
      have HAC := Lib.hid hacc
      have HBW := Lib.hid hbw
      clear hacc hbw
      by_cases hlt : k < s.size
      case neg =>
        have HF : Hid (stepV (stepR (L s)) = .tuple #[stV (false, ⟨#[]⟩, 0), .int .i64 0]) := by
          have h2 := HR.out
          rw [L_drop_nil s k (by omega)] at h2
          have h3 : digR acc (9 - k) [] = (acc, 0) := by cases _h9 : 9 - k <;> rfl
          rw [h3] at h2
          unfold Hid
          rw [HX1.out, h2, if_pos]
          · rfl
          · right
            simp only []
            rw [List.getElem?_eq_none (by rw [List.length_drop, L_len]; omega)]
            simp
        clear HX1 HR HAC
        go_wp2_with fail
        all_goals exact bodyPost_ret (v := .tuple #[.agg #[.bool false, .string ⟨#[]⟩, .int .i64 0], .int .i64 0]) (by simp [results, Tryd.results39, go_sem]) rfl ⟨by rw [HF.out]; rfl, HBW.out⟩
      by_cases hin : k < 9 ∧ dig s[k] = true
      · obtain ⟨hk9', hdg⟩ := hin
        have hdd : 48 ≤ s[k].toNat ∧ s[k].toNat ≤ 57 := by unfold dig at hdg; simpa using hdg
        obtain ⟨hd1, hd2⟩ := hdd
        have HF : Hid (digR 0 8 ((L s).drop 1) = ((digR (10 * acc + (s[k].toNat - 48)) (9 - (k + 1)) ((L s).drop (k + 1))).1, (digR (10 * acc + (s[k].toNat - 48)) (9 - (k + 1)) ((L s).drop (k + 1))).2 + (k + 1 - 1))) := by
          unfold Hid
          rw [HR.out, L_drop s k hlt, show 9 - k = (9 - (k + 1)) + 1 by omega, digR, if_pos hdg]
          simp only [Prod.mk.injEq, true_and]
          omega
        have HA2 : Hid (10 * acc + (s[k].toNat - 48) < 10 ^ (k + 1 - 1)) := by
          have h := HAC.out
          unfold Hid
          rw [show k + 1 - 1 = (k - 1) + 1 by omega, Nat.pow_succ]
          omega
        have HV : Hid ((10 * (acc : Int) + (s[k].toNat : Int) - 48) = ((10 * acc + (s[k].toNat - 48) : Nat) : Int)) := by unfold Hid; omega
        clear HX1 HR HAC hdg HBW
        go_wp2_with fail
        exact ⟨⟨k + 1, 10 * acc + (s[k].toNat - 48), by omega, by omega, by omega, rfl, by rw [HV.out], HA2.out, HF, trivial⟩, by simp [intOf]; omega⟩
      have hno : 9 ≤ (k : Int) ∨ (s[k].toNat : Int) < 48 ∨ 57 < (s[k].toNat : Int) := by
        by_cases h9 : k < 9
        · right
          have hdg : ¬ dig s[k] = true := fun h => hin ⟨h9, h⟩
          unfold dig at hdg
          simp at hdg
          omega
        · left; omega
      have HX2 : Hid (stepR (L s) = if k = 1 ∨ s[k] ≠ 93 then none else some ((true, ⟨#[]⟩, (acc : Int)), k + 1)) := by
        have h2 := HR.out
        have h3 : digR acc (9 - k) ((L s).drop k) = (acc, 0) := by
          by_cases h9 : k < 9
          · have hdg : ¬ dig s[k] = true := fun h => hin ⟨h9, h⟩
            rw [L_drop s k hlt, show 9 - k = (9 - (k + 1)) + 1 by omega, digR, if_neg hdg]
          · rw [show 9 - k = 0 by omega, digR]
        rw [h3] at h2
        have h4 : ((L s).drop 1)[0 + (k - 1)]? = some s[k] := by
          rw [List.getElem?_drop, L_at, show 1 + (0 + (k - 1)) = k by omega, dif_pos hlt]
        unfold Hid
        rw [HX1.out, h2]
        simp only []
        rw [h4]
        by_cases hc : k = 1 ∨ s[k] ≠ 93
        · rw [if_pos hc, if_pos]
          rcases hc with hc | hc
          · left; omega
          · right; intro h; exact hc (Option.some.inj h)
        · rw [if_neg hc, if_neg]
          · rw [show 0 + (k - 1) + 2 = k + 1 by omega]
          · rw [not_or] at hc ⊢
            exact ⟨by omega, fun h => h (congrArg some (Classical.not_not.1 hc.2))⟩
      clear HX1 HR HAC hin
      by_cases hk0 : k = 1
      · have HF : Hid (stepV (stepR (L s)) = .tuple #[stV (false, ⟨#[]⟩, 0), .int .i64 0]) := by
          unfold Hid
          rw [HX2.out, if_pos (.inl hk0)]
          rfl
        have ek : ((k : Int) == 1) = true := beq_iff_eq.2 (by omega)
        clear HX2 hk0
        go_wp2_with fail
        all_goals first
          | omega
          | exact bodyPost_ret (v := .tuple #[.agg #[.bool false, .string ⟨#[]⟩, .int .i64 0], .int .i64 0]) (by simp [results, Tryd.results39, go_sem]) rfl ⟨by rw [HF.out]; rfl, HBW.out⟩
      have ek : ((k : Int) == 1) = false := beq_eq_false_iff_ne.2 (by omega)
      by_cases c2 : s[k].toNat = 93
      case neg =>
        have e2 : ((s[k].toNat : Int) != 93) = true := bneQ _ _ (by omega)
        have HF : Hid (stepV (stepR (L s)) = .tuple #[stV (false, ⟨#[]⟩, 0), .int .i64 0]) := by
          unfold Hid
          rw [HX2.out, if_pos (.inr (fun h => c2 (by rw [h]; rfl)))]
          rfl
        clear HX2 c2
        go_wp2_with fail
        all_goals first
          | omega
          | exact bodyPost_ret (v := .tuple #[.agg #[.bool false, .string ⟨#[]⟩, .int .i64 0], .int .i64 0]) (by simp [results, Tryd.results39, go_sem]) rfl ⟨by rw [HF.out]; rfl, HBW.out⟩
      have e2 : ((s[k].toNat : Int) != 93) = false := bneF _ _ (by omega)
      have HF : Hid (stepV (stepR (L s)) = .tuple #[.agg #[.bool true, .string ⟨#[]⟩, .int .i64 acc], .int .i64 (k + 1 : Nat)]) := by
        unfold Hid
        rw [HX2.out, if_neg]
        · rfl
        · rw [not_or]
          exact ⟨hk0, fun h => h (u8_of c2)⟩
      have c3 : ¬ (s[k].toNat : Int) ≤ 57 := by omega
      have c4 : (48 : Int) ≤ s[k].toNat := by omega
      have HAT := Lib.hid (AtR_any (acc : Int))
      clear HX2 c2 hno
      go_wp2_with fail
      all_goals
        refine (HAT.out _).mono ?_
        rintro e w1 ⟨rfl, hb1⟩
        obtain ⟨⟨hc0, hc1, hc2⟩, hf0, hf1, hf2⟩ := res_cells hb1
        have hbw3 := ((((HBW.out).trans (hb1.mono (HBW.out).size)).setCell (p := ⟨w.heap.size, 0, none⟩) (Nat.le_refl _) (.bool true)).setCell (p := ⟨w.heap.size, 1, none⟩) (Nat.le_refl _) (.string ⟨#[]⟩)).setCell (p := ⟨w.heap.size, 2, none⟩) (Nat.le_refl _) (.int .i64 acc)
        obtain ⟨g0, g1, g2⟩ := set3 w1 w.heap.size hc0 hc1 hc2 (.bool true) (.string ⟨#[]⟩) (.int .i64 acc)
        have HB3 := Lib.hid hbw3
        have HG := Lib.hid (And.intro g0 (And.intro g1 g2))
        clear hbw3 g0 g1 g2
        go_wp2_with fail
        exact bodyPost_ret (v := .tuple #[.agg #[.bool true, .string ⟨#[]⟩, .int .i64 acc], .int .i64 (k + 1)]) (by simp [results, Tryd.results39, go_sem, (HG.out).1, (HG.out).2.1, (HG.out).2.2]) rfl ⟨by rw [HF.out]; rfl, HB3.out⟩
  have e1 : ((s[0].toNat : Int) == 91) = false := beqNB _ _ (by omega)
  have HBW : Hid (Below w.heap.size w (w.alloc (.cells #[.bool false, .string ⟨#[]⟩, .int .i64 0] 26))) := (Below.refl _ w).alloc (Nat.le_refl _) _
  have HX1 : Hid (stepR (L s) = if s[0].toNat ≠ 46 ∨ (L s).drop 1 = [] then none else if ((L s).drop 1).head? = some 34 then qstep (quoF ((L s).drop 1).length (((L s).drop 1).drop 1)) else some (((false, ⟨(((L s).drop 1).take (nmL ((L s).drop 1))).toArray⟩, 0) : St), nmL ((L s).drop 1) + 1)) := by
    unfold Hid; rw [HX.out, if_neg c1]; rfl
  clear HX c1 hd
  by_cases c2 : s[0].toNat = 46
  case neg =>
    have e2 : ((s[0].toNat : Int) != 46) = true := bneQ _ _ (by omega)
    have HF : Hid (stepV (stepR (L s)) = .tuple #[stV (false, ⟨#[]⟩, 0), .int .i64 0]) := by
      unfold Hid
      rw [HX1.out, if_pos (.inl c2)]
      rfl
    clear HX1 c2
    go_enter Tryd.func39, Tryd.ntmps39
    go_wp2_with fail
    exact bodyPost_ret (v := .tuple #[.agg #[.bool false, .string ⟨#[]⟩, .int .i64 0], .int .i64 0]) (by simp [results, Tryd.results39, go_sem]) rfl ⟨by rw [HF.out]; rfl, HBW.out⟩
  have e2 : ((s[0].toNat : Int) != 46) = false := bneF _ _ (by omega)
  by_cases h2 : 1 < s.size
  case neg =>
    have HF : Hid (stepV (stepR (L s)) = .tuple #[stV (false, ⟨#[]⟩, 0), .int .i64 0]) := by
      unfold Hid
      rw [HX1.out, if_pos (.inr (L_drop_nil s 1 (by omega)))]
      rfl
    have h2' : (s.size : Int) < 2 := by omega
    clear HX1 c2 
    go_enter Tryd.func39, Tryd.ntmps39
    go_wp2_with fail
    exact bodyPost_ret (v := .tuple #[.agg #[.bool false, .string ⟨#[]⟩, .int .i64 0], .int .i64 0]) (by simp [results, Tryd.results39, go_sem]) rfl ⟨by rw [HF.out]; rfl, HBW.out⟩
  have h2' : ¬ (s.size : Int) < 2 := by omega
  have hd1 := L_drop s 1 h2
  have HX2 : Hid (stepR (L s) = if s[1].toNat = 34 then qstep (quoF (s.size - 1) ((L s).drop 2)) else some (((false, ⟨(((L s).drop 1).take (nmL ((L s).drop 1))).toArray⟩, 0) : St), nmL ((L s).drop 1) + 1)) := by
    unfold Hid
    rw [HX1.out, if_neg (by rw [not_or]; exact ⟨fun h => h c2, by rw [hd1]; simp⟩)]
    have hh : (((L s).drop 1).head? = some 34) = (s[1].toNat = 34) := by
      rw [hd1, List.head?_cons]
      apply propext
      constructor
      · intro h; rw [Option.some.inj h]; rfl
      · intro h; rw [u8_of h]; rfl
    rw [List.length_drop, L_len, List.drop_drop]
    simp only [hh]
  clear HX1 c2 hd1
  by_cases c3 : s[1].toNat = 34
  · have e3 : ((s[1].toNat : Int) == 34) = true := beqB _ _ (by omega)
    have hLx : L (s.extract 1 s.size) = (L s).drop 1 := L_from s 1
    have hxs : (s.extract 1 s.size).size = s.size - 1 := by rw [ByteArray.size_extract]; omega
    have hq : quoT (s.extract 1 s.size) = (quoF (s.size - 1) ((L s).drop 2)).map fun r => (r.1, r.2 + 1) := by
      unfold quoT; rw [hLx, hxs, List.drop_drop]
    have HC := Lib.hid (fun w' => quoted_any (s.extract 1 s.size) w' (by omega) (by omega))
    rw [hq] at HC
    have HX3 : Hid (stepR (L s) = qstep (quoF (s.size - 1) ((L s).drop 2))) := by unfold Hid; rw [HX2.out, if_pos c3]
    have hle := quoF_le (s.size - 1) ((L s).drop 2)
    rw [List.length_drop, L_len] at hle
    clear HX2 c3 hLx hxs hq
    generalize quoF (s.size - 1) ((L s).drop 2) = r at *
    cases r with
    | none =>
      have HC2 : Hid (∀ w', Calls Tryd.prog 53 #[.string (s.extract 1 s.size)] w' fun e w'' => e = .returned (.tuple #[.string ⟨#[]⟩, .int .i64 0]) ∧ Below w'.heap.size w' w'') := HC.out
      have HF : Hid (stepV (stepR (L s)) = .tuple #[stV (false, ⟨#[]⟩, 0), .int .i64 0]) := by
        unfold Hid
        rw [HX3.out]
        rfl
      clear HC hle HX3
      go_enter Tryd.func39, Tryd.ntmps39
      go_wp2_with fail
      refine (HC2.out _).mono ?_
      rintro e w1 ⟨rfl, hb1⟩
      obtain ⟨⟨hc0, hc1, hc2⟩, hf0, hf1, hf2⟩ := res_cells hb1
      have hbw3 := ((((HBW.out).trans (hb1.mono (HBW.out).size)).setCell (p := ⟨w.heap.size, 0, none⟩) (Nat.le_refl _) (.bool false)).setCell (p := ⟨w.heap.size, 1, none⟩) (Nat.le_refl _) (.string ⟨#[]⟩)).setCell (p := ⟨w.heap.size, 2, none⟩) (Nat.le_refl _) (.int .i64 0)
      obtain ⟨g0, g1, g2⟩ := set3 w1 w.heap.size hc0 hc1 hc2 (.bool false) (.string ⟨#[]⟩) (.int .i64 0)
      have HB3 := Lib.hid hbw3
      have HG := Lib.hid (And.intro g0 (And.intro g1 g2))
      clear hbw3 g0 g1 g2
      go_wp2_with fail
      exact bodyPost_ret (v := .tuple #[.agg #[.bool false, .string ⟨#[]⟩, .int .i64 0], .int .i64 0]) (by simp [results, Tryd.results39, go_sem, (HG.out).1, (HG.out).2.1, (HG.out).2.2]) rfl ⟨by rw [HF.out]; rfl, HB3.out⟩
    | some r =>
      have hr2 := hle r rfl
      have HC2 : Hid (∀ w', Calls Tryd.prog 53 #[.string (s.extract 1 s.size)] w' fun e w'' => e = .returned (.tuple #[.string ⟨r.1.toArray⟩, .int .i64 ((r.2 + 1 : Nat) : Int)]) ∧ Below w'.heap.size w' w'') := HC.out
      have HF : Hid (stepV (stepR (L s)) = .tuple #[stV (false, ⟨r.1.toArray⟩, 0), .int .i64 ((r.2 + 2 : Nat) : Int)]) := by
        unfold Hid
        rw [HX3.out]
        rfl
      clear HC hle HX3
      obtain ⟨kb, hkb⟩ : ∃ kb : ByteArray, kb = ⟨r.1.toArray⟩ := ⟨_, rfl⟩
      rw [← hkb] at HF HC2
      obtain ⟨n, hn⟩ : ∃ n, n = r.2 := ⟨_, rfl⟩
      rw [← hn] at HF HC2 hr2
      clear hkb hn
      have hn0 : (((n + 1 : Nat) : Int) == 0) = false := beq_eq_false_iff_ne.2 (by omega)
      go_enter Tryd.func39, Tryd.ntmps39
      go_wp2_with fail
      refine (HC2.out _).mono ?_
      rintro e w1 ⟨rfl, hb1⟩
      go_wp2_with fail
      refine (KeyR_any kb w1).mono ?_
      rintro e w2 ⟨rfl, hb2⟩
      have hb12 := hb1.trans (hb2.mono hb1.size)
      clear hb1 hb2
      obtain ⟨⟨hc0, hc1, hc2⟩, hf0, hf1, hf2⟩ := res_cells hb12
      have hbw3 := ((((HBW.out).trans (hb12.mono (HBW.out).size)).setCell (p := ⟨w.heap.size, 0, none⟩) (Nat.le_refl _) (.bool false)).setCell (p := ⟨w.heap.size, 1, none⟩) (Nat.le_refl _) (.string kb)).setCell (p := ⟨w.heap.size, 2, none⟩) (Nat.le_refl _) (.int .i64 0)
      obtain ⟨g0, g1, g2⟩ := set3 w2 w.heap.size hc0 hc1 hc2 (.bool false) (.string kb) (.int .i64 0)
      have HB3 := Lib.hid hbw3
      have HG := Lib.hid (And.intro g0 (And.intro g1 g2))
      clear hbw3 g0 g1 g2
      go_wp2_with fail
      exact bodyPost_ret (v := .tuple #[.agg #[.bool false, .string kb, .int .i64 0], .int .i64 (n + 2)]) (by simp [results, Tryd.results39, go_sem, (HG.out).1, (HG.out).2.1, (HG.out).2.2] <;> omega) rfl ⟨by rw [HF.out]; rfl, HB3.out⟩
  have e3 : ((s[1].toNat : Int) == 34) = false := beqNB _ _ (by omega)
  have hle := nmL_le ((L s).drop 1)
  rw [List.length_drop, L_len] at hle
  obtain ⟨j, hj⟩ : ∃ j, j = nmL ((L s).drop 1) + 1 := ⟨_, rfl⟩
  have hjs : j ≤ s.size := by omega
  have HF : Hid (stepV (stepR (L s)) = .tuple #[stV (false, s.extract 1 j, 0), .int .i64 (j : Int)]) := by
    unfold Hid
    rw [HX2.out, if_neg c3, ← hj]
    have : (⟨(((L s).drop 1).take (nmL ((L s).drop 1))).toArray⟩ : ByteArray) = s.extract 1 j := L_inj (by rw [L_extract, hj]; rfl)
    rw [this]
    rfl
  have HJ := Lib.hid hj
  clear HX2 c3 hj hle
  go_enter Tryd.func39, Tryd.ntmps39
  go_wp2_with fail
  go_loopw [8] (fun i wr => ∃ k : Nat, 1 ≤ k ∧ k ≤ s.size ∧ i = .int .i64 k ∧ Hid (j = k + nmL ((L s).drop k)) ∧ wr = w.alloc (.cells #[.bool false, .string ⟨#[]⟩, .int .i64 0] 26)) (fun i _ => s.size - (intOf i).toNat)
  case atStart => exact ⟨1, by omega, by omega, rfl, by unfold Hid; rw [HJ.out]; omega, rfl⟩
  case round =>
    obtain ⟨k, hk1, hk, rfl, HR, rfl⟩ := hrel
    by_cases hlt : k < s.size
    · cases hl : ltr s[k]
      · have hjk : j = k := by
          rw [HR.out, L_drop s k hlt, nmL, show (nmc s[k] || dig s[k]) = ltr s[k] from rfl, hl]
          rfl
        subst hjk
        clear HR HJ
        go_wp2_with ((with_reducible refine (letter8_any _ _).mono ?_); rintro e w' ⟨rfl, rfl⟩)
        all_goals
          refine (KeyR_any (s.extract 1 j) _).mono ?_
          rintro e w2 ⟨rfl, hb12⟩
          obtain ⟨⟨hc0, hc1, hc2⟩, hf0, hf1, hf2⟩ := res_cells hb12
          have hbw3 := ((((HBW.out).trans (hb12.mono (HBW.out).size)).setCell (p := ⟨w.heap.size, 0, none⟩) (Nat.le_refl _) (.bool false)).setCell (p := ⟨w.heap.size, 1, none⟩) (Nat.le_refl _) (.string (s.extract 1 j))).setCell (p := ⟨w.heap.size, 2, none⟩) (Nat.le_refl _) (.int .i64 0)
          obtain ⟨g0, g1, g2⟩ := set3 w2 w.heap.size hc0 hc1 hc2 (.bool false) (.string (s.extract 1 j)) (.int .i64 0)
          have HB3 := Lib.hid hbw3
          have HG := Lib.hid (And.intro g0 (And.intro g1 g2))
          clear hbw3 g0 g1 g2
          go_wp2_with fail
          exact bodyPost_ret (v := .tuple #[.agg #[.bool false, .string (s.extract 1 j), .int .i64 0], .int .i64 j]) (by simp [results, Tryd.results39, go_sem, (HG.out).1, (HG.out).2.1, (HG.out).2.2]) rfl ⟨by rw [HF.out]; rfl, HB3.out⟩
      · have HF2 : Hid (j = (k + 1) + nmL ((L s).drop (k + 1))) := by
          unfold Hid
          rw [HR.out, L_drop s k hlt, nmL, show (nmc s[k] || dig s[k]) = ltr s[k] from rfl, hl, if_pos rfl]
          omega
        clear HR HJ
        go_wp2_with ((with_reducible refine (letter8_any _ _).mono ?_); rintro e w' ⟨rfl, rfl⟩)
        exact ⟨⟨k + 1, by omega, by omega, rfl, HF2, trivial⟩, by simp [intOf]; omega⟩
    · have hjk : j = k := by
        rw [HR.out, L_drop_nil s k (by omega)]
        rfl
      subst hjk
      clear HR HJ
      go_wp2_with fail
      all_goals
        refine (KeyR_any (s.extract 1 j) _).mono ?_
        rintro e w2 ⟨rfl, hb12⟩
        obtain ⟨⟨hc0, hc1, hc2⟩, hf0, hf1, hf2⟩ := res_cells hb12
        have hbw3 := ((((HBW.out).trans (hb12.mono (HBW.out).size)).setCell (p := ⟨w.heap.size, 0, none⟩) (Nat.le_refl _) (.bool false)).setCell (p := ⟨w.heap.size, 1, none⟩) (Nat.le_refl _) (.string (s.extract 1 j))).setCell (p := ⟨w.heap.size, 2, none⟩) (Nat.le_refl _) (.int .i64 0)
        obtain ⟨g0, g1, g2⟩ := set3 w2 w.heap.size hc0 hc1 hc2 (.bool false) (.string (s.extract 1 j)) (.int .i64 0)
        have HB3 := Lib.hid hbw3
        have HG := Lib.hid (And.intro g0 (And.intro g1 g2))
        clear hbw3 g0 g1 g2
        go_wp2_with fail
        exact bodyPost_ret (v := .tuple #[.agg #[.bool false, .string (s.extract 1 j), .int .i64 0], .int .i64 j]) (by simp [results, Tryd.results39, go_sem, (HG.out).1, (HG.out).2.1, (HG.out).2.2]) rfl ⟨by rw [HF.out]; rfl, HB3.out⟩
end Go.Proofs.YtjbhjnelepbkcaaDoor
