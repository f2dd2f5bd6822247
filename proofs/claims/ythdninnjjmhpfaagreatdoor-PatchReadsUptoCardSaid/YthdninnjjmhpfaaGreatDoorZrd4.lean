/- datakitref56.written walked. Conditions: the operator is one of the four; a valid path. -/
import Derived.Test.YthdninnjjmhpfaaGreatDoorZrd3
import Derived.Test.YthdninnjjmhpfaaGreatDoorZrd2
import Derived.Test.YthdninnjjmhpfaaGreatDoorNp2
namespace Go.Proofs.YthdninnjjmhpfaaGreatDoor
open Go.RowKit Go.Shelf
set_option maxHeartbeats 2000000
set_option maxRecDepth 100000

theorem KeyR_any (t : ByteArray) (w : World) : Calls Tryz.prog 140 #[.string t] w fun e w' => e = .returned (.agg #[.bool false, .string t, .int .i64 0]) ∧ Below w.heap.size w w' := by
  go_enter Tryz.func140, Tryz.ntmps140
  go_wp2_with fail
  exact bodyPost_ret (v := .agg #[.bool false, .string t, .int .i64 0]) (by simp [results, Tryz.results140, go_sem]) rfl ⟨rfl, (Below.refl _ w).alloc (Nat.le_refl _) _⟩
theorem AtR_any (n : Int) (w : World) : Calls Tryz.prog 138 #[.int .i64 n] w fun e w' => e = .returned (.agg #[.bool true, .string ⟨#[]⟩, .int .i64 n]) ∧ Below w.heap.size w w' := by
  go_enter Tryz.func138, Tryz.ntmps138
  go_wp2_with fail
  exact bodyPost_ret (v := .agg #[.bool true, .string ⟨#[]⟩, .int .i64 n]) (by simp [results, Tryz.results138, go_sem]) rfl ⟨rfl, (Below.refl _ w).alloc (Nat.le_refl _) _⟩
theorem digR_le : ∀ (f acc : Nat) (l : List UInt8), (digR acc f l).2 ≤ l.length ∧ (digR acc f l).2 ≤ f
  | 0, _, _ => by unfold digR; exact ⟨Nat.zero_le _, Nat.le_refl _⟩
  | _ + 1, _, [] => by unfold digR; exact ⟨Nat.zero_le _, Nat.zero_le _⟩
  | f + 1, acc, b :: t => by
    have h := digR_le f (10 * acc + (b.toNat - 48)) t
    unfold digR
    split
    · simp only [List.length_cons]; omega
    · exact ⟨Nat.zero_le _, Nat.zero_le _⟩
theorem quoF_le : ∀ (f : Nat) (l : List UInt8) (r : List UInt8 × Nat), quoF f l = some r → r.2 ≤ l.length
  | 0, _, _, h => by cases h
  | _ + 1, [], _, h => by cases h
  | f + 1, b :: t, r, h => by
    rw [quoF_cons] at h
    have hu := (unsR_lt (b :: t)).2
    split at h
    · cases h; simp
    split at h
    · cases h
    · cases hq : quoF f ((b :: t).drop (unsR (b :: t)).2) with
      | none => rw [hq] at h; cases h
      | some x =>
        rw [hq] at h
        cases h
        have := quoF_le f _ x hq
        rw [List.length_drop] at this
        simp only [] at *
        omega
def qstep (o : Option (List UInt8 × Nat)) : Option (St × Nat) := match o with
  | some r => some ((false, ⟨r.1.toArray⟩, 0), r.2 + 2)
  | none => none
def stepV (o : Option (St × Nat)) : Value := match o with
  | some r => .tuple #[stpV r.1, .int .i64 (r.2 : Int)]
  | none => .tuple #[stpV (false, ⟨#[]⟩, 0), .int .i64 0]
theorem res_cells {w w1 : World} (hb : Below (w.alloc (.cells #[.bool false, .string ⟨#[]⟩, .int .i64 0] 94)).heap.size (w.alloc (.cells #[.bool false, .string ⟨#[]⟩, .int .i64 0] 94)) w1) :
    (w1.cell? ⟨w.heap.size, 0, none⟩ = some (.bool false) ∧ w1.cell? ⟨w.heap.size, 1, none⟩ = some (.string ⟨#[]⟩) ∧ w1.cell? ⟨w.heap.size, 2, none⟩ = some (.int .i64 0)) ∧
    (w1.frozen? ⟨w.heap.size, 0, none⟩ = false ∧ w1.frozen? ⟨w.heap.size, 1, none⟩ = false ∧ w1.frozen? ⟨w.heap.size, 2, none⟩ = false) := by
  have hs : w.heap.size < (w.alloc (.cells #[.bool false, .string ⟨#[]⟩, .int .i64 0] 94)).heap.size := by simp
  refine ⟨⟨?_, ?_, ?_⟩, ?_, ?_, ?_⟩
  · rw [hb.cell hs, cell_of_alloc]; rfl
  · rw [hb.cell hs, cell_of_alloc]; rfl
  · rw [hb.cell hs, cell_of_alloc]; rfl
  · rw [hb.frozen hs]; simp
  · rw [hb.frozen hs]; simp
  · rw [hb.frozen hs]; simp
theorem set3 (w : World) (g : Nat) {x y z : Value} (h0 : w.cell? ⟨g, 0, none⟩ = some x) (h1 : w.cell? ⟨g, 1, none⟩ = some y) (h2 : w.cell? ⟨g, 2, none⟩ = some z) (a b c : Value) :
    (((w.setCell ⟨g, 0, none⟩ a).setCell ⟨g, 1, none⟩ b).setCell ⟨g, 2, none⟩ c).cell? ⟨g, 0, none⟩ = some a ∧ (((w.setCell ⟨g, 0, none⟩ a).setCell ⟨g, 1, none⟩ b).setCell ⟨g, 2, none⟩ c).cell? ⟨g, 1, none⟩ = some b ∧ (((w.setCell ⟨g, 0, none⟩ a).setCell ⟨g, 1, none⟩ b).setCell ⟨g, 2, none⟩ c).cell? ⟨g, 2, none⟩ = some c := by
  have n01 : (⟨g, 0, none⟩ : Addr) ≠ ⟨g, 1, none⟩ := by simp
  have n02 : (⟨g, 0, none⟩ : Addr) ≠ ⟨g, 2, none⟩ := by simp
  have n12 : (⟨g, 1, none⟩ : Addr) ≠ ⟨g, 2, none⟩ := by simp
  refine ⟨?_, ?_, ?_⟩
  · rw [World.cell?_setCell_other (h := n02.symm), World.cell?_setCell_other (h := n01.symm)]
    exact World.cell?_setCell_same _ _ _ h0
  · rw [World.cell?_setCell_other (h := n12.symm)]
    exact World.cell?_setCell_same _ _ _ ((World.cell?_setCell_other _ _ _ _ n01).trans h1)
  · exact World.cell?_setCell_same _ _ _ ((World.cell?_setCell_other _ _ _ _ n12).trans ((World.cell?_setCell_other _ _ _ _ n02).trans h2))
theorem step_any (s : ByteArray) (w : World) (h1 : 1 ≤ s.size) (hs : s.size ≤ 1000000000) :
    Calls Tryz.prog 106 #[.string s] w fun e w' => e = .returned (stepV (stepR (L s))) ∧ Below w.heap.size w w' := by
  have hp : 0 < s.size := by omega
  have hd := L_drop s 0 hp
  rw [List.drop_zero] at hd
  have HX := Lib.hid (stepR_cons s[0] ((L s).drop 1))
  rw [← hd] at HX
  by_cases c1 : s[0].toNat = 91
  · have e1 : ((s[0].toNat : Int) == 91) = true := beqB _ _ (by omega)
    have HX1 : Hid (stepR (L s) = if (digR 0 8 ((L s).drop 1)).2 = 0 ∨ ((L s).drop 1)[(digR 0 8 ((L s).drop 1)).2]? ≠ some 93 then none else some ((true, ⟨#[]⟩, ((digR 0 8 ((L s).drop 1)).1 : Int)), (digR 0 8 ((L s).drop 1)).2 + 2)) := by
      unfold Hid; rw [HX.out, if_pos c1]
    clear HX c1 hd
    go_enter Tryz.func106, Tryz.ntmps106
    go_wp2_with fail
    go_loopw [4, 5] (fun j v wr => ∃ k acc : Nat, 1 ≤ k ∧ k ≤ 9 ∧ k ≤ s.size ∧ j = .int .i64 k ∧ v = .int .i64 acc ∧ acc < 10 ^ (k - 1) ∧ Hid (digR 0 8 ((L s).drop 1) = ((digR acc (9 - k) ((L s).drop k)).1, (digR acc (9 - k) ((L s).drop k)).2 + (k - 1))) ∧ wr = w.alloc (.cells #[.bool false, .string ⟨#[]⟩, .int .i64 0] 94)) (fun j _ _ => 9 - (intOf j).toNat)
    case atStart => exact ⟨1, 0, by omega, by omega, by omega, rfl, rfl, by decide, rfl, rfl⟩
    case round =>
      obtain ⟨k, acc, hk1, hk9, hk, rfl, rfl, hacc, HR, rfl⟩ := hrel
      have hbw : Below w.heap.size w (w.alloc (.cells #[.bool false, .string ⟨#[]⟩, .int .i64 0] 94)) := (Below.refl _ w).alloc (Nat.le_refl _) _
      have ha9 : acc < 100000000 := Nat.lt_of_lt_of_le hacc (Nat.pow_le_pow_right (by decide) (by omega : k - 1 ≤ 8))
      have HAC := Lib.hid hacc
      have HBW := Lib.hid hbw
      clear hacc hbw
      by_cases hlt : k < s.size
      case neg =>
        have HF : Hid (stepV (stepR (L s)) = .tuple #[stpV (false, ⟨#[]⟩, 0), .int .i64 0]) := by
          have h2 := HR.out
          rw [L_drop_nil s k (by omega)] at h2
          have h3 : digR acc (9 - k) [] = (acc, 0) := by cases _h9 : 9 - k <;> rfl
          rw [h3] at h2
          unfold Hid
          rw [HX1.out, h2, if_pos]
          · rfl
          · right
            simp only []
            rw [List.getElem?_eq_none (by rw [List.length_drop, L_len]; omega)]
            simp
        clear HX1 HR HAC
        go_wp2_with fail
        all_goals exact bodyPost_ret (v := .tuple #[.agg #[.bool false, .string ⟨#[]⟩, .int .i64 0], .int .i64 0]) (by simp [results, Tryz.results106, go_sem]) rfl ⟨by rw [HF.out]; rfl, HBW.out⟩
      by_cases hin : k < 9 ∧ dig s[k] = true
      · obtain ⟨hk9', hdg⟩ := hin
        have hdd : 48 ≤ s[k].toNat ∧ s[k].toNat ≤ 57 := by unfold dig at hdg; simpa using hdg
        obtain ⟨hd1, hd2⟩ := hdd
        have HF : Hid (digR 0 8 ((L s).drop 1) = ((digR (10 * acc + (s[k].toNat - 48)) (9 - (k + 1)) ((L s).drop (k + 1))).1, (digR (10 * acc + (s[k].toNat - 48)) (9 - (k + 1)) ((L s).drop (k + 1))).2 + (k + 1 - 1))) := by
          unfold Hid
          rw [HR.out, L_drop s k hlt, show 9 - k = (9 - (k + 1)) + 1 by omega, digR, if_pos hdg]
          simp only [Prod.mk.injEq, true_and]
          omega
        have HA2 : Hid (10 * acc + (s[k].toNat - 48) < 10 ^ (k + 1 - 1)) := by
          have h := HAC.out
          unfold Hid
          rw [show k + 1 - 1 = (k - 1) + 1 by omega, Nat.pow_succ]
          omega
        have HV : Hid ((10 * (acc : Int) + (s[k].toNat : Int) - 48) = ((10 * acc + (s[k].toNat - 48) : Nat) : Int)) := by unfold Hid; omega
        clear HX1 HR HAC hdg HBW
        go_wp2_with fail
        exact ⟨⟨k + 1, 10 * acc + (s[k].toNat - 48), by omega, by omega, by omega, rfl, by rw [HV.out], HA2.out, HF, trivial⟩, by simp [intOf]; omega⟩
      have hno : 9 ≤ (k : Int) ∨ (s[k].toNat : Int) < 48 ∨ 57 < (s[k].toNat : Int) := by
        by_cases h9 : k < 9
        · right
          have hdg : ¬ dig s[k] = true := fun h => hin ⟨h9, h⟩
          unfold dig at hdg
          simp at hdg
          omega
        · left; omega
      have HX2 : Hid (stepR (L s) = if k = 1 ∨ s[k] ≠ 93 then none else some ((true, ⟨#[]⟩, (acc : Int)), k + 1)) := by
        have h2 := HR.out
        have h3 : digR acc (9 - k) ((L s).drop k) = (acc, 0) := by
          by_cases h9 : k < 9
          · have hdg : ¬ dig s[k] = true := fun h => hin ⟨h9, h⟩
            rw [L_drop s k hlt, show 9 - k = (9 - (k + 1)) + 1 by omega, digR, if_neg hdg]
          · rw [show 9 - k = 0 by omega, digR]
        rw [h3] at h2
        have h4 : ((L s).drop 1)[0 + (k - 1)]? = some s[k] := by
          rw [List.getElem?_drop, L_at, show 1 + (0 + (k - 1)) = k by omega, dif_pos hlt]
        unfold Hid
        rw [HX1.out, h2]
        simp only []
        rw [h4]
        by_cases hc : k = 1 ∨ s[k] ≠ 93
        · rw [if_pos hc, if_pos]
          rcases hc with hc | hc
          · left; omega
          · right; intro h; exact hc (Option.some.inj h)
        · rw [if_neg hc, if_neg]
          · rw [show 0 + (k - 1) + 2 = k + 1 by omega]
          · rw [not_or] at hc ⊢
            exact ⟨by omega, fun h => h (congrArg some (Classical.not_not.1 hc.2))⟩
      clear HX1 HR HAC hin
      by_cases hk0 : k = 1
      · have HF : Hid (stepV (stepR (L s)) = .tuple #[stpV (false, ⟨#[]⟩, 0), .int .i64 0]) := by
          unfold Hid
          rw [HX2.out, if_pos (.inl hk0)]
          rfl
        have ek : ((k : Int) == 1) = true := beq_iff_eq.2 (by omega)
        clear HX2 hk0
        go_wp2_with fail
        all_goals first
          | omega
          | exact bodyPost_ret (v := .tuple #[.agg #[.bool false, .string ⟨#[]⟩, .int .i64 0], .int .i64 0]) (by simp [results, Tryz.results106, go_sem]) rfl ⟨by rw [HF.out]; rfl, HBW.out⟩
      have ek : ((k : Int) == 1) = false := beq_eq_false_iff_ne.2 (by omega)
      by_cases c2 : s[k].toNat = 93
      case neg =>
        have e2 : ((s[k].toNat : Int) != 93) = true := bneQ _ _ (by omega)
        have HF : Hid (stepV (stepR (L s)) = .tuple #[stpV (false, ⟨#[]⟩, 0), .int .i64 0]) := by
          unfold Hid
          rw [HX2.out, if_pos (.inr (fun h => c2 (by rw [h]; rfl)))]
          rfl
        clear HX2 c2
        go_wp2_with fail
        all_goals first
          | omega
          | exact bodyPost_ret (v := .tuple #[.agg #[.bool false, .string ⟨#[]⟩, .int .i64 0], .int .i64 0]) (by simp [results, Tryz.results106, go_sem]) rfl ⟨by rw [HF.out]; rfl, HBW.out⟩
      have e2 : ((s[k].toNat : Int) != 93) = false := bneF _ _ (by omega)
      have HF : Hid (stepV (stepR (L s)) = .tuple #[.agg #[.bool true, .string ⟨#[]⟩, .int .i64 acc], .int .i64 (k + 1 : Nat)]) := by
        unfold Hid
        rw [HX2.out, if_neg]
        · rfl
        · rw [not_or]
          exact ⟨hk0, fun h => h (u8_of c2)⟩
      have c3 : ¬ (s[k].toNat : Int) ≤ 57 := by omega
      have c4 : (48 : Int) ≤ s[k].toNat := by omega
      have HAT := Lib.hid (AtR_any (acc : Int))
      clear HX2 c2 hno
      go_wp2_with fail
      all_goals
        refine (HAT.out _).mono ?_
        rintro e w1 ⟨rfl, hb1⟩
        obtain ⟨⟨hc0, hc1, hc2⟩, hf0, hf1, hf2⟩ := res_cells hb1
        have hbw3 := ((((HBW.out).trans (hb1.mono (HBW.out).size)).setCell (p := ⟨w.heap.size, 0, none⟩) (Nat.le_refl _) (.bool true)).setCell (p := ⟨w.heap.size, 1, none⟩) (Nat.le_refl _) (.string ⟨#[]⟩)).setCell (p := ⟨w.heap.size, 2, none⟩) (Nat.le_refl _) (.int .i64 acc)
        obtain ⟨g0, g1, g2⟩ := set3 w1 w.heap.size hc0 hc1 hc2 (.bool true) (.string ⟨#[]⟩) (.int .i64 acc)
        have HB3 := Lib.hid hbw3
        have HG := Lib.hid (And.intro g0 (And.intro g1 g2))
        clear hbw3 g0 g1 g2
        go_wp2_with fail
        exact bodyPost_ret (v := .tuple #[.agg #[.bool true, .string ⟨#[]⟩, .int .i64 acc], .int .i64 (k + 1)]) (by simp [results, Tryz.results106, go_sem, (HG.out).1, (HG.out).2.1, (HG.out).2.2]) rfl ⟨by rw [HF.out]; rfl, HB3.out⟩
  have e1 : ((s[0].toNat : Int) == 91) = false := beqNB _ _ (by omega)
  have HBW : Hid (Below w.heap.size w (w.alloc (.cells #[.bool false, .string ⟨#[]⟩, .int .i64 0] 94))) := (Below.refl _ w).alloc (Nat.le_refl _) _
  have HX1 : Hid (stepR (L s) = if s[0].toNat ≠ 46 ∨ (L s).drop 1 = [] then none else if ((L s).drop 1).head? = some 34 then qstep (quoF ((L s).drop 1).length (((L s).drop 1).drop 1)) else some (((false, ⟨(((L s).drop 1).take (nmL ((L s).drop 1))).toArray⟩, 0) : St), nmL ((L s).drop 1) + 1)) := by
    unfold Hid; rw [HX.out, if_neg c1]; rfl
  clear HX c1 hd
  by_cases c2 : s[0].toNat = 46
  case neg =>
    have e2 : ((s[0].toNat : Int) != 46) = true := bneQ _ _ (by omega)
    have HF : Hid (stepV (stepR (L s)) = .tuple #[stpV (false, ⟨#[]⟩, 0), .int .i64 0]) := by
      unfold Hid
      rw [HX1.out, if_pos (.inl c2)]
      rfl
    clear HX1 c2
    go_enter Tryz.func106, Tryz.ntmps106
    go_wp2_with fail
    exact bodyPost_ret (v := .tuple #[.agg #[.bool false, .string ⟨#[]⟩, .int .i64 0], .int .i64 0]) (by simp [results, Tryz.results106, go_sem]) rfl ⟨by rw [HF.out]; rfl, HBW.out⟩
  have e2 : ((s[0].toNat : Int) != 46) = false := bneF _ _ (by omega)
  by_cases h2 : 1 < s.size
  case neg =>
    have HF : Hid (stepV (stepR (L s)) = .tuple #[stpV (false, ⟨#[]⟩, 0), .int .i64 0]) := by
      unfold Hid
      rw [HX1.out, if_pos (.inr (L_drop_nil s 1 (by omega)))]
      rfl
    have h2' : (s.size : Int) < 2 := by omega
    clear HX1 c2 
    go_enter Tryz.func106, Tryz.ntmps106
    go_wp2_with fail
    exact bodyPost_ret (v := .tuple #[.agg #[.bool false, .string ⟨#[]⟩, .int .i64 0], .int .i64 0]) (by simp [results, Tryz.results106, go_sem]) rfl ⟨by rw [HF.out]; rfl, HBW.out⟩
  have h2' : ¬ (s.size : Int) < 2 := by omega
  have hd1 := L_drop s 1 h2
  have HX2 : Hid (stepR (L s) = if s[1].toNat = 34 then qstep (quoF (s.size - 1) ((L s).drop 2)) else some (((false, ⟨(((L s).drop 1).take (nmL ((L s).drop 1))).toArray⟩, 0) : St), nmL ((L s).drop 1) + 1)) := by
    unfold Hid
    rw [HX1.out, if_neg (by rw [not_or]; exact ⟨fun h => h c2, by rw [hd1]; simp⟩)]
    have hh : (((L s).drop 1).head? = some 34) = (s[1].toNat = 34) := by
      rw [hd1, List.head?_cons]
      apply propext
      constructor
      · intro h; rw [Option.some.inj h]; rfl
      · intro h; rw [u8_of h]; rfl
    rw [List.length_drop, L_len, List.drop_drop]
    simp only [hh]
  clear HX1 c2 hd1
  by_cases c3 : s[1].toNat = 34
  · have e3 : ((s[1].toNat : Int) == 34) = true := beqB _ _ (by omega)
    have hLx : L (s.extract 1 s.size) = (L s).drop 1 := L_from s 1
    have hxs : (s.extract 1 s.size).size = s.size - 1 := by rw [ByteArray.size_extract]; omega
    have hq : quoT (s.extract 1 s.size) = (quoF (s.size - 1) ((L s).drop 2)).map fun r => (r.1, r.2 + 1) := by
      unfold quoT; rw [hLx, hxs, List.drop_drop]
    have HC := Lib.hid (fun w' => quoted_any (s.extract 1 s.size) w' (by omega) (by omega))
    rw [hq] at HC
    have HX3 : Hid (stepR (L s) = qstep (quoF (s.size - 1) ((L s).drop 2))) := by unfold Hid; rw [HX2.out, if_pos c3]
    have hle := quoF_le (s.size - 1) ((L s).drop 2)
    rw [List.length_drop, L_len] at hle
    clear HX2 c3 hLx hxs hq
    generalize quoF (s.size - 1) ((L s).drop 2) = r at *
    cases r with
    | none =>
      have HC2 : Hid (∀ w', Calls Tryz.prog 139 #[.string (s.extract 1 s.size)] w' fun e w'' => e = .returned (.tuple #[.string ⟨#[]⟩, .int .i64 0]) ∧ Below w'.heap.size w' w'') := HC.out
      have HF : Hid (stepV (stepR (L s)) = .tuple #[stpV (false, ⟨#[]⟩, 0), .int .i64 0]) := by
        unfold Hid
        rw [HX3.out]
        rfl
      clear HC hle HX3
      go_enter Tryz.func106, Tryz.ntmps106
      go_wp2_with fail
      refine (HC2.out _).mono ?_
      rintro e w1 ⟨rfl, hb1⟩
      obtain ⟨⟨hc0, hc1, hc2⟩, hf0, hf1, hf2⟩ := res_cells hb1
      have hbw3 := ((((HBW.out).trans (hb1.mono (HBW.out).size)).setCell (p := ⟨w.heap.size, 0, none⟩) (Nat.le_refl _) (.bool false)).setCell (p := ⟨w.heap.size, 1, none⟩) (Nat.le_refl _) (.string ⟨#[]⟩)).setCell (p := ⟨w.heap.size, 2, none⟩) (Nat.le_refl _) (.int .i64 0)
      obtain ⟨g0, g1, g2⟩ := set3 w1 w.heap.size hc0 hc1 hc2 (.bool false) (.string ⟨#[]⟩) (.int .i64 0)
      have HB3 := Lib.hid hbw3
      have HG := Lib.hid (And.intro g0 (And.intro g1 g2))
      clear hbw3 g0 g1 g2
      go_wp2_with fail
      exact bodyPost_ret (v := .tuple #[.agg #[.bool false, .string ⟨#[]⟩, .int .i64 0], .int .i64 0]) (by simp [results, Tryz.results106, go_sem, (HG.out).1, (HG.out).2.1, (HG.out).2.2]) rfl ⟨by rw [HF.out]; rfl, HB3.out⟩
    | some r =>
      have hr2 := hle r rfl
      have HC2 : Hid (∀ w', Calls Tryz.prog 139 #[.string (s.extract 1 s.size)] w' fun e w'' => e = .returned (.tuple #[.string ⟨r.1.toArray⟩, .int .i64 ((r.2 + 1 : Nat) : Int)]) ∧ Below w'.heap.size w' w'') := HC.out
      have HF : Hid (stepV (stepR (L s)) = .tuple #[stpV (false, ⟨r.1.toArray⟩, 0), .int .i64 ((r.2 + 2 : Nat) : Int)]) := by
        unfold Hid
        rw [HX3.out]
        rfl
      clear HC hle HX3
      obtain ⟨kb, hkb⟩ : ∃ kb : ByteArray, kb = ⟨r.1.toArray⟩ := ⟨_, rfl⟩
      rw [← hkb] at HF HC2
      obtain ⟨n, hn⟩ : ∃ n, n = r.2 := ⟨_, rfl⟩
      rw [← hn] at HF HC2 hr2
      clear hkb hn
      have hn0 : (((n + 1 : Nat) : Int) == 0) = false := beq_eq_false_iff_ne.2 (by omega)
      go_enter Tryz.func106, Tryz.ntmps106
      go_wp2_with fail
      refine (HC2.out _).mono ?_
      rintro e w1 ⟨rfl, hb1⟩
      go_wp2_with fail
      refine (KeyR_any kb w1).mono ?_
      rintro e w2 ⟨rfl, hb2⟩
      have hb12 := hb1.trans (hb2.mono hb1.size)
      clear hb1 hb2
      obtain ⟨⟨hc0, hc1, hc2⟩, hf0, hf1, hf2⟩ := res_cells hb12
      have hbw3 := ((((HBW.out).trans (hb12.mono (HBW.out).size)).setCell (p := ⟨w.heap.size, 0, none⟩) (Nat.le_refl _) (.bool false)).setCell (p := ⟨w.heap.size, 1, none⟩) (Nat.le_refl _) (.string kb)).setCell (p := ⟨w.heap.size, 2, none⟩) (Nat.le_refl _) (.int .i64 0)
      obtain ⟨g0, g1, g2⟩ := set3 w2 w.heap.size hc0 hc1 hc2 (.bool false) (.string kb) (.int .i64 0)
      have HB3 := Lib.hid hbw3
      have HG := Lib.hid (And.intro g0 (And.intro g1 g2))
      clear hbw3 g0 g1 g2
      go_wp2_with fail
      exact bodyPost_ret (v := .tuple #[.agg #[.bool false, .string kb, .int .i64 0], .int .i64 (n + 2)]) (by simp [results, Tryz.results106, go_sem, (HG.out).1, (HG.out).2.1, (HG.out).2.2] <;> omega) rfl ⟨by rw [HF.out]; rfl, HB3.out⟩
  have e3 : ((s[1].toNat : Int) == 34) = false := beqNB _ _ (by omega)
  have hle := nmL_le ((L s).drop 1)
  rw [List.length_drop, L_len] at hle
  obtain ⟨j, hj⟩ : ∃ j, j = nmL ((L s).drop 1) + 1 := ⟨_, rfl⟩
  have hjs : j ≤ s.size := by omega
  have HF : Hid (stepV (stepR (L s)) = .tuple #[stpV (false, s.extract 1 j, 0), .int .i64 (j : Int)]) := by
    unfold Hid
    rw [HX2.out, if_neg c3, ← hj]
    have : (⟨(((L s).drop 1).take (nmL ((L s).drop 1))).toArray⟩ : ByteArray) = s.extract 1 j := L_inj (by rw [L_extract, hj]; rfl)
    rw [this]
    rfl
  have HJ := Lib.hid hj
  clear HX2 c3 hj hle
  go_enter Tryz.func106, Tryz.ntmps106
  go_wp2_with fail
  go_loopw [8] (fun i wr => ∃ k : Nat, 1 ≤ k ∧ k ≤ s.size ∧ i = .int .i64 k ∧ Hid (j = k + nmL ((L s).drop k)) ∧ wr = w.alloc (.cells #[.bool false, .string ⟨#[]⟩, .int .i64 0] 94)) (fun i _ => s.size - (intOf i).toNat)
  case atStart => exact ⟨1, by omega, by omega, rfl, by unfold Hid; rw [HJ.out]; omega, rfl⟩
  case round =>
    obtain ⟨k, hk1, hk, rfl, HR, rfl⟩ := hrel
    by_cases hlt : k < s.size
    · cases hl : ltr s[k]
      · have hjk : j = k := by
          rw [HR.out, L_drop s k hlt, nmL, show (nmc s[k] || dig s[k]) = ltr s[k] from rfl, hl]
          rfl
        subst hjk
        clear HR HJ
        go_wp2_with ((with_reducible refine (letter8_any _ _).mono ?_); rintro e w' ⟨rfl, rfl⟩)
        all_goals
          refine (KeyR_any (s.extract 1 j) _).mono ?_
          rintro e w2 ⟨rfl, hb12⟩
          obtain ⟨⟨hc0, hc1, hc2⟩, hf0, hf1, hf2⟩ := res_cells hb12
          have hbw3 := ((((HBW.out).trans (hb12.mono (HBW.out).size)).setCell (p := ⟨w.heap.size, 0, none⟩) (Nat.le_refl _) (.bool false)).setCell (p := ⟨w.heap.size, 1, none⟩) (Nat.le_refl _) (.string (s.extract 1 j))).setCell (p := ⟨w.heap.size, 2, none⟩) (Nat.le_refl _) (.int .i64 0)
          obtain ⟨g0, g1, g2⟩ := set3 w2 w.heap.size hc0 hc1 hc2 (.bool false) (.string (s.extract 1 j)) (.int .i64 0)
          have HB3 := Lib.hid hbw3
          have HG := Lib.hid (And.intro g0 (And.intro g1 g2))
          clear hbw3 g0 g1 g2
          go_wp2_with fail
          exact bodyPost_ret (v := .tuple #[.agg #[.bool false, .string (s.extract 1 j), .int .i64 0], .int .i64 j]) (by simp [results, Tryz.results106, go_sem, (HG.out).1, (HG.out).2.1, (HG.out).2.2]) rfl ⟨by rw [HF.out]; rfl, HB3.out⟩
      · have HF2 : Hid (j = (k + 1) + nmL ((L s).drop (k + 1))) := by
          unfold Hid
          rw [HR.out, L_drop s k hlt, nmL, show (nmc s[k] || dig s[k]) = ltr s[k] from rfl, hl, if_pos rfl]
          omega
        clear HR HJ
        go_wp2_with ((with_reducible refine (letter8_any _ _).mono ?_); rintro e w' ⟨rfl, rfl⟩)
        exact ⟨⟨k + 1, by omega, by omega, rfl, HF2, trivial⟩, by simp [intOf]; omega⟩
    · have hjk : j = k := by
        rw [HR.out, L_drop_nil s k (by omega)]
        rfl
      subst hjk
      clear HR HJ
      go_wp2_with fail
      all_goals
        refine (KeyR_any (s.extract 1 j) _).mono ?_
        rintro e w2 ⟨rfl, hb12⟩
        obtain ⟨⟨hc0, hc1, hc2⟩, hf0, hf1, hf2⟩ := res_cells hb12
        have hbw3 := ((((HBW.out).trans (hb12.mono (HBW.out).size)).setCell (p := ⟨w.heap.size, 0, none⟩) (Nat.le_refl _) (.bool false)).setCell (p := ⟨w.heap.size, 1, none⟩) (Nat.le_refl _) (.string (s.extract 1 j))).setCell (p := ⟨w.heap.size, 2, none⟩) (Nat.le_refl _) (.int .i64 0)
        obtain ⟨g0, g1, g2⟩ := set3 w2 w.heap.size hc0 hc1 hc2 (.bool false) (.string (s.extract 1 j)) (.int .i64 0)
        have HB3 := Lib.hid hbw3
        have HG := Lib.hid (And.intro g0 (And.intro g1 g2))
        clear hbw3 g0 g1 g2
        go_wp2_with fail
        exact bodyPost_ret (v := .tuple #[.agg #[.bool false, .string (s.extract 1 j), .int .i64 0], .int .i64 j]) (by simp [results, Tryz.results106, go_sem, (HG.out).1, (HG.out).2.1, (HG.out).2.2]) rfl ⟨by rw [HF.out]; rfl, HB3.out⟩
end Go.Proofs.YthdninnjjmhpfaaGreatDoor

namespace Go.Proofs.YthdninnjjmhpfaaGreatDoor
open Go.RowKit Go.Shelf
set_option maxHeartbeats 1000000
set_option maxRecDepth 100000

theorem one8_any (s : St) (hs : okSt s = true) (w : World) :
    Calls Tryz.prog 118 #[stpV s] w fun e w' => e = .returned (.string ⟨(stepT s).toArray⟩) ∧ Below w.heap.size w w' := by
  obtain ⟨b, key, ix⟩ := s
  simp only [stpV]
  have hbx : ∀ o, Below w.heap.size w (w.alloc o) := fun o => (Below.refl _ w).alloc (Nat.le_refl _) o
  have HBX := Lib.hid hbx
  clear hbx
  cases b with
  | true =>
    rw [okSt_true, decide_eq_true_eq] at hs
    obtain ⟨_, h0, h1⟩ := hs
    have hle := itoa_len ix h0 h1
    obtain ⟨H, hH⟩ : ∃ H : ByteArray, H = ⟨(Lib.itoa ix).toArray⟩ := ⟨_, rfl⟩
    have hHs : H.size ≤ 5 := by rw [← L_len, hH]; exact hle
    have HN := Lib.hid (Number_any ix h0 h1)
    rw [← hH] at HN
    have HF : Hid ((⟨(stepT (true, key, ix)).toArray⟩ : ByteArray) = ⟨#[91]⟩ ++ H ++ ⟨#[93]⟩) := by
      unfold Hid
      apply L_inj
      rw [L_append, L_append, hH]
      rfl
    have h1' : Hid (ix ≤ 65536) := h1
    clear hH hle h1
    go_enter Tryz.func118, Tryz.ntmps118
    go_wp2_with fail
    refine (HN.out _).mono ?_
    rintro e w1 ⟨rfl, hb1⟩
    have hbw := (HBX.out _).trans (hb1.mono (HBX.out _).size)
    clear hb1
    go_wp2_with fail
    go_ret
    exact ⟨by rw [HF.out]; rfl, hbw⟩
  | false =>
    rw [okSt_false, decide_eq_true_eq] at hs
    obtain ⟨rfl, hks, _⟩ := hs
    have HNM := Lib.hid (fun w' => Name8_any key w' (by omega))
    cases hn : isName (L key)
    case true =>
      rw [hn] at HNM
      have HF : Hid ((⟨(stepT (false, key, 0)).toArray⟩ : ByteArray) = ⟨#[46]⟩ ++ key) := by
        unfold Hid
        apply L_inj
        rw [L_append]
        show stepT (false, key, 0) = _
        unfold stepT
        simp only [Bool.false_eq_true, if_false, hn, if_true]
        rfl
      clear hn
      go_enter Tryz.func118, Tryz.ntmps118
      go_wp2_with fail
      refine (HNM.out _).mono ?_
      rintro e w1 ⟨rfl, rfl⟩
      go_wp2_with fail
      go_ret
      exact ⟨by rw [HF.out]; rfl, HBX.out _⟩
    rw [hn] at HNM
    have HF : Hid (stepT (false, key, 0) = 46 :: 34 :: ((L key).flatMap sgn ++ [34])) := by
      unfold Hid stepT
      simp [hn]
    clear hn
    go_enter Tryz.func118, Tryz.ntmps118
    go_wp2_with fail
    refine (HNM.out _).mono ?_
    rintro e w1 ⟨rfl, rfl⟩
    have hcell := cell_of_alloc w #[.bool false, .string key, .int .i64 0] 94 1
    have hbw0 := HBX.out (.cells #[.bool false, .string key, .int .i64 0] 94)
    have hlt0 : w.heap.size < (w.alloc (.cells #[.bool false, .string key, .int .i64 0] 94)).heap.size := by simp
    simp only [show (#[Value.bool false, .string key, .int .i64 0] : Array Value)[1]? = some (.string key) from rfl] at hcell
    have HCL := Lib.hid hcell
    have HB0 := Lib.hid hbw0
    have HLT := Lib.hid hlt0
    clear hcell hbw0 hlt0
    go_wp2_with fail
    go_loopw [3, 4] (fun t i wr => ∃ (k : Nat) (acc : ByteArray), k ≤ key.size ∧ i = .int .i64 k ∧ t = .string acc ∧ acc.size ≤ 6 * k + 2 ∧ wr.cell? ⟨w.heap.size, 1, none⟩ = some (.string key) ∧ w.heap.size < wr.heap.size ∧ Hid (L acc = 46 :: 34 :: ((L key).take k).flatMap sgn) ∧ Below w.heap.size w wr) (fun _ i _ => key.size - (intOf i).toNat)
    case atStart => exact ⟨0, ⟨#[46, 34]⟩, Nat.zero_le _, rfl, rfl, by show 2 ≤ _; omega, HCL.out, HLT.out, rfl, HB0.out⟩
    case round =>
      clear HCL HB0 HLT
      obtain ⟨k, acc, hk, rfl, rfl, hal, hc, hlt, HA, hbw⟩ := hrel
      have hz := hbw.size
      by_cases hkk : k < key.size
      case neg =>
        obtain rfl : k = key.size := by omega
        have HX : Hid ((⟨(stepT (false, key, 0)).toArray⟩ : ByteArray) = acc ++ ⟨#[34]⟩) := by
          unfold Hid
          apply L_inj
          rw [L_append, HA.out, List.take_of_length_le (by rw [L_len]; exact Nat.le_refl _)]
          show stepT (false, key, 0) = _
          rw [HF.out]
          rfl
        clear HA HF
        go_wp2_with fail
        go_ret
        exact ⟨by rw [HX.out]; rfl, hbw⟩
      have HSG := Lib.hid (sign_any key[k] wr)
      obtain ⟨T, hT⟩ : ∃ T : ByteArray, T = ⟨(sgn key[k]).toArray⟩ := ⟨_, rfl⟩
      have hTs : T.size ≤ 6 := by rw [← L_len, hT]; exact sgn_len _
      have hLA : L (acc ++ T) = 46 :: 34 :: ((L key).take (k + 1)).flatMap sgn := by
        rw [L_append, HA.out, hT, take_snoc key k hkk]
        simp [L]
      have HLA := Lib.hid hLA
      rw [← hT] at HSG
      clear hT hLA HA
      go_wp2_with fail
      refine HSG.out.mono ?_
      rintro e w2 ⟨rfl, hb2⟩
      have hc2 : w2.cell? ⟨w.heap.size, 1, none⟩ = some (.string key) := by rw [hb2.cell (p := ⟨w.heap.size, 1, none⟩) hlt]; exact hc
      have hbw2 := hbw.trans (hb2.mono hz)
      have hlt2 : w.heap.size < w2.heap.size := Nat.lt_of_lt_of_le hlt hb2.size
      clear hc hb2 HSG
      go_wp2_with fail
      exact ⟨⟨k + 1, acc ++ T, by omega, rfl, rfl, by rw [ByteArray.size_append]; omega, hc2, hlt2, HLA, hbw2⟩, by simp [intOf]; omega⟩
theorem stepT_len (s : St) (hs : okSt s = true) : (stepT s).length ≤ 7000 := by
  obtain ⟨b, key, ix⟩ := s
  cases b with
  | true =>
    rw [okSt_true, decide_eq_true_eq] at hs
    have := itoa_len ix hs.2.1 hs.2.2
    show (91 :: (Lib.itoa ix ++ [93])).length ≤ _
    simp only [List.length_cons, List.length_append, List.length_nil]
    omega
  | false =>
    rw [okSt_false, decide_eq_true_eq] at hs
    have h6 := flat_len6 (L key)
    rw [L_len] at h6
    unfold stepT
    simp only [Bool.false_eq_true, if_false]
    split
    · simp only [List.length_cons, L_len]; omega
    · simp only [List.length_cons, List.length_append, List.length_nil]; omega
theorem RText_any (v : Value) (l : List St) (w : World) (h : Rd w v l) (hv : validP l = true) :
    Calls Tryz.prog 83 #[v] w fun e w' => e = .returned (.string ⟨(textL l).toArray⟩) ∧ Below w.heap.size w w' := by
  obtain ⟨a, cap, rfl, hcap, hmax, _, hl⟩ := h
  obtain ⟨hok, h48⟩ := all_ok hv
  clear hv
  by_cases h0 : l = []
  · subst h0
    clear hl
    go_enter Tryz.func83, Tryz.ntmps83
    go_wp2_with fail
    go_ret
    exact ⟨rfl, Below.refl _ _⟩
  have hlen : 0 < l.length := List.length_pos_iff.2 h0
  obtain ⟨g, o, rfl, hg, hat⟩ := hl h0
  obtain ⟨c0, c1, c2⟩ := hat 0 hlen
  simp only [Nat.zero_mul, Nat.add_zero] at c0
  clear c1 c2 hl
  have HT : Hid (textL l = preT l ++ l.flatMap stepT) := by unfold Hid textL; rw [if_neg (by simp [h0])]
  have HP : Hid (preT l = if l[0].1 then [46] else []) := by
    unfold Hid
    cases l with
    | nil => exact absurd rfl h0
    | cons s p => rfl
  have HA := Lib.hid hat; clear hat
  have HOK := Lib.hid hok; clear hok
  have hne0 : ((l.length : Int) == 0) = false := by rw [beq_eq_false_iff_ne]; omega
  clear h0
  obtain ⟨a0, ha0⟩ : ∃ a0 : ByteArray, a0 = if l[0].1 then ⟨#[46]⟩ else ⟨#[]⟩ := ⟨_, rfl⟩
  have HI : Hid (L a0 = preT l ∧ a0.size ≤ 1) := by
    unfold Hid
    rw [HP.out, ha0]
    cases l[0].1
    · exact ⟨rfl, Nat.zero_le _⟩
    · exact ⟨rfl, Nat.le_refl _⟩
  clear HP
  cases hb : l[0].1
  all_goals
    rw [hb] at c0 ha0
    simp only [if_true, Bool.false_eq_true, if_false] at ha0
    subst ha0
    clear hb
    go_enter Tryz.func83, Tryz.ntmps83
    go_wp2_with fail
    go_loopw [3, 4] (fun t i wr => ∃ (k : Nat) (acc : ByteArray), k ≤ l.length ∧ i = .int .i64 k ∧ t = .string acc ∧ acc.size ≤ 7000 * k + 1 ∧ Hid (L acc = preT l ++ (l.take k).flatMap stepT) ∧ Below w.heap.size w wr) (fun _ i _ => l.length - (intOf i).toNat)
    case atStart => exact ⟨0, _, Nat.zero_le _, rfl, rfl, by have := HI.out.2; omega, by unfold Hid; rw [HI.out.1]; simp, Below.refl _ _⟩
    case round =>
      clear HI c0
      obtain ⟨k, acc, hk, rfl, rfl, hal, HX, hbw⟩ := hrel
      have hz := hbw.size
      by_cases hlt : k < l.length
      case neg =>
        obtain rfl : k = l.length := by omega
        have HF : Hid ((⟨(textL l).toArray⟩ : ByteArray) = acc) := by
          unfold Hid
          apply L_inj
          rw [HX.out, List.take_of_length_le (Nat.le_refl _)]
          exact HT.out
        clear HX HT
        go_wp2_with fail
        go_ret
        exact ⟨by rw [HF.out]; rfl, hbw⟩
      obtain ⟨d0, d1, d2⟩ := HA.out k hlt
      have hs := okSt_at HOK.out k hlt
      have hsl := stepT_len _ hs
      have HON := Lib.hid (one8_any l[k] hs wr)
      obtain ⟨T, hT⟩ : ∃ T : ByteArray, T = ⟨(stepT l[k]).toArray⟩ := ⟨_, rfl⟩
      have hTs : T.size ≤ 7000 := by rw [← L_len, hT]; exact hsl
      have HX2 : Hid (L (acc ++ T) = preT l ++ (l.take (k + 1)).flatMap stepT) := by
        unfold Hid
        rw [L_append, HX.out, hT, text_snoc l k hlt, List.append_assoc]
        rfl
      rw [← hT] at HON
      rw [← hbw.cell (p := ⟨g, o + k * 3, none⟩) hg] at d0
      rw [← hbw.cell (p := ⟨g, o + k * 3 + 1, none⟩) hg] at d1
      rw [← hbw.cell (p := ⟨g, o + k * 3 + 2, none⟩) hg] at d2
      clear hs hsl hT HX
      generalize l[k] = s at *
      obtain ⟨b, key, ix⟩ := s
      simp only [stpV] at d0 d1 d2 HON
      go_wp2_with fail
      refine HON.out.mono ?_
      rintro e w2 ⟨rfl, hb2⟩
      have hbw2 := hbw.trans (hb2.mono hz)
      clear hb2 HON d0 d1 d2
      go_wp2_with fail
      exact ⟨⟨k + 1, acc ++ T, by omega, rfl, rfl, by rw [ByteArray.size_append]; omega, HX2, hbw2⟩, by simp [intOf]; omega⟩
end Go.Proofs.YthdninnjjmhpfaaGreatDoor

namespace Go.Proofs.YthdninnjjmhpfaaGreatDoor
open Go.RowKit Go.Shelf
set_option maxHeartbeats 2000000
set_option maxRecDepth 100000

theorem own_formP {w : World} {base : Nat} {e : TypeId} {size : Nat} {v : Value} {n : Nat} {xs : List Value} (h : w.ownsRow base e size v n xs) : ∃ A cap, v = .slice A n cap := by
  rcases h.2 with ⟨rfl, h0⟩ | ⟨g, cap, cur, rfl, -⟩
  · exact ⟨none, 0, by rw [h0]⟩
  · exact ⟨_, cap, rfl⟩
theorem stepR_le (l : List UInt8) (r : St × Nat) (h : stepR l = some r) : 1 ≤ r.2 ∧ r.2 ≤ l.length := by
  rcases l with _ | ⟨c, t⟩
  · cases h
  rw [stepR_cons] at h
  have hd := (digR_le 8 0 t).1
  split at h
  · split at h
    · cases h
    · rename_i hn
      rw [not_or] at hn
      have h2 := Classical.not_not.1 hn.2
      rw [List.getElem?_eq_some_iff] at h2
      obtain ⟨h2, _⟩ := h2
      cases h
      simp only [List.length_cons]
      omega
  split at h
  · cases h
  split at h
  · split at h
    · rename_i x hq
      have := quoF_le _ _ _ hq
      rw [List.length_drop] at this
      cases h
      simp only [List.length_cons]
      rename_i h3 _
      have : 1 ≤ t.length := by
        rcases t with _ | ⟨b, t⟩
        · cases h3
        · simp
      omega
    · cases h
  · have := nmL_le t
    cases h
    simp only [List.length_cons]
    omega
theorem RParse_any (s : ByteArray) (w : World) (hs : s.size ≤ 1000000000) :
    Calls Tryz.prog 73 #[.string s] w (ParPost w (parseL (L s))) := by
  rw [← parse_same]
  have HC := Lib.hid (fun w' => Valid3_any s w' (by omega))
  by_cases hb : badL (L s) = (L s).length
  case neg =>
    have hv : validL (L s) = false := decide_eq_false hb
    have HF : Hid (parseR (L s) = ([], 5)) := by unfold Hid parseR; rw [if_pos hb]
    rw [hv] at HC
    clear hb hv
    go_enter Tryz.func73, Tryz.ntmps73
    go_wp2_with fail
    refine (HC.out _).mono ?_
    rintro e w1 ⟨rfl, hb1⟩
    go_wp2_with fail
    go_ret2
    exact ParPost_none HF.out hb1
  have hv : validL (L s) = true := decide_eq_true hb
  rw [hv] at HC
  by_cases h46 : L s = [46]
  · have e46 : (s.toList == [46]) = true := by rw [beq46]; exact decide_eq_true h46
    have HF : Hid (parseR (L s) = ([], 0)) := by unfold Hid parseR; rw [if_neg (by omega), if_pos h46]
    clear hb hv h46
    go_enter Tryz.func73, Tryz.ntmps73
    go_wp2_with fail
    refine (HC.out _).mono ?_
    rintro e w1 ⟨rfl, hb1⟩
    go_wp2_with fail
    go_ret2
    exact ParPost_none HF.out hb1
  have e46 : (s.toList == [46]) = false := by rw [beq46]; exact decide_eq_false h46
  have HF : Hid (parseR (L s) = acceptR (L s) (loopR 49 0 (strip (L s)))) := by unfold Hid parseR; rw [if_neg (by omega), if_neg h46]
  clear hb hv h46
  obtain ⟨r0, hr0⟩ : ∃ r0 : ByteArray, L r0 = strip (L s) := ⟨⟨(strip (L s)).toArray⟩, rfl⟩
  have HR0 := Lib.hid hr0
  have hr0s : r0.size ≤ s.size := by
    have h := congrArg List.length hr0
    have h2 : (strip (L s)).length ≤ (L s).length := by unfold strip; split <;> simp
    rw [L_len] at h h2
    omega
  have t2 : ∀ h : 1 < s.size, (L s).take 2 = [s[0], s[1]] := by
    intro h
    rw [L_take_succ s 1 h, L_take_succ s 0 (by omega)]
    rfl
  obtain ⟨B, hB⟩ : ∃ B, decide ((L s).take 2 = [46, 91]) = B := ⟨_, rfl⟩
  have hr0e : r0 = if B then s.extract 1 s.size else s := by
    refine L_inj ?_
    rw [hr0]
    unfold strip
    cases B
    · rw [if_neg (of_decide_eq_false hB)]; rfl
    · rw [if_pos (of_decide_eq_true hB)]; exact (L_from s 1).symm
  have HN : Hid (s.size ≤ 1 → B = false) := by
    intro h
    rw [← hB, decide_eq_false_iff_not]
    intro h3
    have := congrArg List.length h3
    rw [List.length_take, L_len] at this
    simp at this
    omega
  have H0 : Hid (∀ h : 1 < s.size, s[0].toNat ≠ 46 → B = false) := by
    intro h h2
    rw [← hB, decide_eq_false_iff_not, t2 h]
    intro h3
    simp only [List.cons.injEq] at h3
    exact h2 (by rw [h3.1]; rfl)
  have H1 : Hid (∀ h : 1 < s.size, s[0].toNat = 46 → ((s[1].toNat : Int) == 91) = B) := by
    intro h h2
    rw [← hB, t2 h, u8_of h2]
    by_cases h3 : s[1].toNat = 91
    · rw [u8_of h3]; rfl
    · rw [decide_eq_false, beqNB _ _ (by omega)]
      intro h4
      simp only [List.cons.injEq] at h4
      exact h3 (by rw [h4.2.1]; rfl)
  have HB1 : Hid (B = true → 1 < s.size) := by
    intro h
    rw [h] at hB
    have := congrArg List.length (of_decide_eq_true hB)
    rw [List.length_take, L_len] at this
    simp at this
    omega
  clear hB
  clear t2 hr0
  go_enter Tryz.func73, Tryz.ntmps73
  go_wp2_with fail
  refine (HC.out _).mono ?_
  rintro e w1 ⟨rfl, hb1⟩
  go_upto_region 7 with fail
  go_cut [26] (fun v wx => v = .bool B ∧ w1 = wx)
  case first =>
    go_wp2_with fail
    all_goals
      go_meet
      refine ⟨congrArg Value.bool ?_, rfl⟩
      first
        | exact (HN.out (by omega)).symm
        | exact H1.out (by omega) (by omega)
        | exact (H0.out (by omega) (by omega)).symm
  case rest =>
    obtain ⟨rfl, rfl⟩ := hcut
    clear HN H0 H1
    go_upto_if 26 with fail
    go_cut [5] (fun v wx => v = .string r0 ∧ w1 = wx)
    case first =>
      cases B
      · simp only [Bool.false_eq_true, if_false] at hr0e
        go_wp2_with fail
        go_meet
        exact ⟨by rw [hr0e], rfl⟩
      · simp only [if_true] at hr0e
        have h1s := HB1.out rfl
        go_wp2_with fail
        go_meet
        exact ⟨by rw [hr0e], rfl⟩
    case rest =>
      obtain ⟨rfl, rfl⟩ := hcut
      clear hr0e HB1
      go_wp2_with fail
      go_loopw [4, 5, 6, 7] (fun o re _ _ wr => ∃ (k : Nat) (r : ByteArray) (acc : List St), k ≤ 48 ∧ acc.length = k ∧ re = .string r ∧ r.size ≤ 1000000000 ∧ wr.ownsRow w.heap.size 94 3 o k (acc.flatMap stk) ∧ Hid (loopR 49 0 (strip (L s)) = (loopR (49 - k) k (L r)).map fun p => acc ++ p) ∧ Below w.heap.size w wr) (fun _ re _ _ _ => match re with | .string r => r.size | _ => 0)
      case atStart =>
        refine ⟨0, r0, [], by omega, rfl, rfl, by omega, World.ownsRow_nil _ _ _ _, ?_, hb1⟩
        unfold Hid; rw [HR0.out]; simp
      case round =>
        clear HR0
        obtain ⟨k, r, acc, hk, hal, rfl, hrs, hown, HLR, hbw⟩ := hrel
        obtain ⟨A, cap, rfl⟩ := own_formP hown
        have hz := hbw.size
        by_cases h0 : r.size = 0
        · have HX : Hid (parseR (L s) = acceptR (L s) (some acc)) := by
            have h2 : L r = [] := List.length_eq_zero_iff.1 (by rw [L_len]; exact h0)
            unfold Hid
            rw [HF.out, HLR.out, h2, show 49 - k = (48 - k) + 1 by omega, loopR, if_pos rfl]
            simp
          have e0 : ¬ (0 : Int) < r.size := by omega
          have hown' : wr.ownsRow w.heap.size 94 3 (.slice A k cap) acc.length (acc.flatMap stk) := by rw [hal]; exact hown
          have HO := Lib.hid hown'
          have HRD := Lib.hid (Rd.of_own hown')
          have HRV := Lib.hid (RValid_any _ acc wr HRD.out)
          clear hown hown' HLR HF h0
          cases hva : validP acc with
          | false =>
            rw [hva] at HRV
            have HF2 : Hid (parseR (L s) = ([], 3)) := by
              unfold Hid
              rw [HX.out]
              unfold acceptR
              simp [hva]
            clear HX hva
            go_wp2_with fail
            refine (HRV.out).mono ?_
            rintro e w2 ⟨rfl, hb2⟩
            go_wp2_with fail
            go_ret2
            exact ParPost_none HF2.out (hbw.trans (hb2.mono hz))
          | true =>
            rw [hva] at HRV
            have HTX := Lib.hid (fun w' (h : Rd w' (.slice A k cap) acc) => RText_any _ acc w' h hva)
            obtain ⟨T, hT⟩ : ∃ T : ByteArray, T = ⟨(textL acc).toArray⟩ := ⟨_, rfl⟩
            rw [← hT] at HTX
            have hLT : L T = textL acc := by rw [hT]; rfl
            have HX2 : Hid (parseR (L s) = if L T = L s then (acc, 0) else ([], 3)) := by
              unfold Hid
              rw [HX.out, hLT]
              simp only [acceptR, hva, true_and]
            clear HX hva hT hLT
            cases hB : (T.toList == s.toList) with
            | true =>
              have HF2 : Hid (parseR (L s) = (acc, 0)) := by
                unfold Hid
                rw [HX2.out, if_pos]
                rw [beq_iff_eq, toList_L, toList_L] at hB
                exact hB
              clear HX2
              go_wp2_with fail
              refine (HRV.out).mono ?_
              rintro e w2 ⟨rfl, hb2⟩
              go_wp2_with fail
              refine (HTX.out w2 (HRD.out.below hb2)).mono ?_
              rintro e w3 ⟨rfl, hb3⟩
              have hb23 := hb2.trans (hb3.mono hb2.size)
              have hown3 := own_below HO.out hb23
              have hbw3 := hbw.trans (hb23.mono hz)
              have HFI : Hid (ParPost w (parseR (L s)) (.returned (.tuple #[.slice A k cap, .int .i64 0])) w3) := by
                unfold Hid ParPost
                rw [HF2.out]
                exact ⟨_, rfl, hown3, hbw3⟩
              clear hown3 hbw3 hb2 hb3 hb23 HF2
              go_wp2_with fail
              go_ret2
              exact HFI.out
            | false =>
              have HF2 : Hid (parseR (L s) = ([], 3)) := by
                unfold Hid
                rw [HX2.out, if_neg]
                intro h
                rw [toList_L, toList_L, h] at hB
                simp at hB
              clear HX2
              go_wp2_with fail
              refine (HRV.out).mono ?_
              rintro e w2 ⟨rfl, hb2⟩
              go_wp2_with fail
              refine (HTX.out w2 (HRD.out.below hb2)).mono ?_
              rintro e w3 ⟨rfl, hb3⟩
              have hb23 := hb2.trans (hb3.mono hb2.size)
              have hbw3 := hbw.trans (hb23.mono hz)
              clear hb2 hb3 hb23
              go_wp2_with fail
              go_ret2
              exact ParPost_none HF2.out hbw3
        · have e0 : (0 : Int) < r.size := by omega
          have hne : ¬ L r = [] := fun h => h0 (by rw [← L_len, h]; rfl)
          have HL2 : Hid (∀ o, stepR (L r) = o → loopR 49 0 (strip (L s)) = (match o with
            | some x => if 48 ≤ k then none else (loopR (49 - (k + 1)) (k + 1) ((L r).drop x.2)).map fun p => x.1 :: p
            | none => none).map fun p => acc ++ p) := by
            intro o ho
            rw [HLR.out, show 49 - k = (49 - (k + 1)) + 1 by omega, loopR, if_neg hne, ho]
            cases o <;> rfl
          have HS := Lib.hid (fun w' => step_any r w' (by omega) (by omega))
          have hle := stepR_le (L r)
          rw [L_len] at hle
          clear HLR hne h0
          cases hst : stepR (L r) with
          | none =>
            rw [hst] at HS
            have HS2 : Hid (∀ w', Calls Tryz.prog 106 #[.string r] w' fun e w'' => e = .returned (.tuple #[.agg #[.bool false, .string ⟨#[]⟩, .int .i64 0], .int .i64 0]) ∧ Below w'.heap.size w' w'') := HS.out
            have HF2 : Hid (parseR (L s) = ([], 3)) := by
              unfold Hid
              rw [HF.out, HL2.out _ hst]
              rfl
            clear HS HL2 hst hle HF hown
            go_wp2_with fail
            refine (HS2.out _).mono ?_
            rintro e w2 ⟨rfl, hb2⟩
            have hbw2 := hbw.trans (hb2.mono hz)
            clear hb2
            go_wp2_with fail
            go_ret2
            exact ParPost_none HF2.out (hbw2.alloc hbw2.size _)
          | some x =>
            obtain ⟨⟨sb, sk, si⟩, n⟩ := x
            obtain ⟨hn1, hn2⟩ := hle _ hst
            simp only [] at hn1 hn2
            rw [hst] at HS
            have HS2 : Hid (∀ w', Calls Tryz.prog 106 #[.string r] w' fun e w'' => e = .returned (.tuple #[.agg #[.bool sb, .string sk, .int .i64 si], .int .i64 (n : Int)]) ∧ Below w'.heap.size w' w'') := HS.out
            have HL3 := Lib.hid (HL2.out _ hst)
            have en : ((n : Int) == 0) = false := beq_eq_false_iff_ne.2 (by omega)
            clear HS HL2 hst hle
            by_cases hk48 : 48 ≤ k
            · have HF2 : Hid (parseR (L s) = ([], 3)) := by
                unfold Hid
                rw [HF.out, HL3.out]
                simp only []
                rw [if_pos hk48]
                rfl
              have ek : (48 : Int) ≤ k := by omega
              clear HL3 HF hown hk48
              go_wp2_with fail
              refine (HS2.out _).mono ?_
              rintro e w2 ⟨rfl, hb2⟩
              have hbw2 := hbw.trans (hb2.mono hz)
              clear hb2
              go_wp2_with fail
              go_ret2
              exact ParPost_none HF2.out (hbw2.alloc hbw2.size _)
            · have HR2 : Hid (loopR 49 0 (strip (L s)) = (loopR (49 - (k + 1)) (k + 1) (L (r.extract n r.size))).map fun p => (acc ++ [(sb, sk, si)]) ++ p) := by
                unfold Hid
                rw [HL3.out, L_from]
                simp only []
                rw [if_neg hk48, Option.map_map]
                congr 1
                funext p
                simp
              have ek : ¬ (48 : Int) ≤ k := by omega
              have hrz : (r.extract n r.size).size = r.size - n := by rw [ByteArray.size_extract]; omega
              clear HL3 hk48
              go_wp2_with fail
              refine (HS2.out _).mono ?_
              rintro e w2 ⟨rfl, hb2⟩
              have hbw2 := hbw.trans (hb2.mono hz)
              have hown2 := own_below hown hb2
              have hz2 := hbw2.size
              clear hb2 hown
              go_wp2_with (at_builtin; refine wp_pushG elem_step rfl _ _ rfl (hown2.alloc _) (stk (sb, sk, si)) rfl (stk_one _) rfl (w2.heap.size + 1) (by simp) rfl (by omega) (by simp; omega) ?_; intro v' w3 hown3 hg3 hb3)
              refine ⟨⟨k + 1, r.extract n r.size, acc ++ [(sb, sk, si)], by omega, by simp; omega, rfl, by omega, by rw [List.flatMap_append]; simpa using hown3, HR2, (hbw2.alloc hz2 _).trans hb3⟩, ?_⟩
              show (r.extract n r.size).size < r.size
              omega
end Go.Proofs.YthdninnjjmhpfaaGreatDoor

namespace Go.Proofs.YthdninnjjmhpfaaGreatDoor
open Go.RowKit
set_option maxHeartbeats 16000000
set_option maxRecDepth 100000

theorem st27 : (Tryz.prog.info? 27).map (·.size) = some 1 := by kernel_rfl
abbrev c0V : VC := ⟨hdK 0, .slice none 0 0, .slice none 0 0, .slice none 0 0⟩
theorem v0_rd (w : World) (S : Nat → Prop) : RdI w S c0V v0 := leaf_rd (hdK 0) (okK 0 i64_0) rfl w S
theorem nameS_le (op : Int) : (nameS op).size ≤ 1000000000 := by
  unfold nameS
  repeat' split
  all_goals decide
theorem textL_le (l : List St) (h : validP l = true) : (textL l).length ≤ 400000 := by
  obtain ⟨hok, h48⟩ := all_ok h
  have key : ∀ p : List St, p.all okSt = true → (p.flatMap stepT).length ≤ 7000 * p.length := by
    intro p
    induction p with
    | nil => intro _; simp
    | cons s p ih =>
      intro hp
      simp only [List.all_cons, Bool.and_eq_true] at hp
      have h1 := stepT_len s hp.1
      have h2 := ih hp.2
      rw [List.flatMap_cons, List.length_append, List.length_cons]
      omega
  have hk := key l hok
  unfold textL
  split
  · simp
  · rw [List.length_append]
    have : (preT l).length ≤ 1 := by
      unfold preT
      split
      · split <;> simp
      · simp
    omega
theorem normL_bd (ng : Bool) (l : List UInt8) (e : Int) : (normL ng l e).ds.length ≤ 120 ∧ -400 ≤ (normL ng l e).e ∧ (normL ng l e).e ≤ 400 := by
  unfold normL normS badR
  split
  · exact ⟨by simp, by simp, by simp⟩
  split
  · exact ⟨by simp, by simp, by simp⟩
  · rename_i h
    refine ⟨?_, ?_, ?_⟩
    · simp only [List.length_take]; omega
    · show -400 ≤ e + _; omega
    · show e + _ ≤ 400; omega
theorem okI (n : Int) : HdOk (hdN (intR n).neg ⟨(intR n).ds.toArray⟩ (intR n).e) := by
  obtain ⟨h1, h2, h3⟩ := normL_bd false (numL n.toNat) 0
  refine okN _ _ _ ?_ ⟨?_, ?_⟩
  · show (intR n).ds.toArray.size ≤ _
    unfold intR
    simp
    omega
  · unfold intR; omega
  · unfold intR; omega
theorem PWrite_any (v : Value) (xs : List Ch) (w : World) (hf : fewB xs = true) (hv : RdL w v xs) (hok : okC xs) (he : EnvT w) :
    Calls Tryz.prog 17 #[v] w (WrPost w xs) := by
  have HOUT : Hid (∀ w' c q, Below w.heap.size w w' → q = (wrR xs).2 → RdV w' c (wrR xs).1 → WrPost w xs (.returned (.tuple #[aggV c, .int .i64 (q : Nat)])) w') := fun w' c q hb hq hr => ⟨c, by rw [hq], hr, hb⟩
  have HV := Lib.hid hv
  have HE := Lib.hid he
  have HCHK := Lib.hid (fun w' (hb : Below w.heap.size w w') => PChk_any v xs w' hok (hv.below hb))
  have HOK := Lib.hid hok
  have HNOD := Lib.hid (nod_wrL xs hf)
  have HALL := Lib.hid (first_all (xs := xs))
  have HWR : Hid (wrR xs = if (firstL xs).2 ≠ 0 then (v0, (firstL xs).2) else if checkV (wrL xs) ≠ 0 then (v0, checkV (wrL xs)) else (wrL xs, 0)) := rfl
  obtain ⟨hn, hfew⟩ := fewB_is hf
  have HF := Lib.hid hfew
  obtain ⟨cc, ⟨a, cap, rfl, h1, ⟨h2, -⟩, h3, h4⟩, hc⟩ := hv
  have HA := Lib.hid h4
  have HC := Lib.hid hc
  generalize (firstL xs).2 = q at *
  generalize wrR xs = RR at *
  clear h4 h3 hc hfew hf he hok
  go_enter Tryz.func17, Tryz.ntmps17
  go_wp2_with fail
  generalize hW : World.alloc w _ = w1
  obtain ⟨ha1, -, hz1, hb1⟩ := alloc_of hW
  clear hW
  refine (HCHK.out _ hb1).mono ?_
  rintro e w2 ⟨rfl, hb2⟩
  have HB2 := Lib.hid (hb1.trans (hb2.mono hb1.size))
  have HX2 : Hid (w2.heap[w.heap.size]? = some (.cells (VC.cells c0V).toArray 30 (0, 0))) := (hb2.block w.heap.size (by omega)).trans ha1
  have HZ2 : Hid (w.heap.size < w2.heap.size) := by unfold Hid; have := hb2.size; omega
  have HONE0 := Lib.hid (vc_one (v0_rd w (fun _ => True)))
  clear ha1 hz1 hb1 hb2 HCHK
  by_cases hq : q = 0
  case neg =>
    have qn : ((q : Int) != 0) = true := by rw [bne_iff_ne]; omega
    replace HWR : Hid (RR = (v0, q)) := by unfold Hid; rw [HWR.out, if_pos hq]
    clear hq
    go_wp2_with (refine wpl_store rfl rfl stVk.2 rfl rfl (cs := VC.cells c0V) rfl (cells_len _) HONE0.out HX2.out (Nat.le_refl 13) (row := VC.cells c0V) rfl ?_; generalize hW3 : World.setRow _ _ _ = w3; obtain ⟨hd3, hk3, hz3, hb3⟩ := setRow_of hW3 HX2.out; clear hW3)
    obtain ⟨⟨z0, z1, z2, z3, z4, z5, z6, z7, z8, z9, z10, z11, z12⟩, zf⟩ := box13 hd3
    exact bodyPost_ret (v := .tuple #[aggV c0V, .int .i64 q]) (by simp [results, Tryz.results17, go_sem, z0, z1, z2, z3, z4, z5, z6, z7, z8, z9, z10, z11, z12]) rfl (HOUT.out _ c0V q (HB2.out.trans (hb3 _ (Nat.le_refl _))) (by rw [HWR.out]) (by rw [HWR.out]; exact v0_rd _ _))
  subst hq
  replace HALL := Lib.hid (HALL.out rfl)
  replace HWR : Hid (RR = if checkV (wrL xs) ≠ 0 then (v0, checkV (wrL xs)) else (wrL xs, 0)) := by unfold Hid; rw [HWR.out]; rfl
  go_wp2_with fail
  generalize hW : World.alloc w2 _ = w3
  obtain ⟨ha3, -, hz3, hb3⟩ := alloc_of hW
  have HB3 := Lib.hid (HB2.out.trans (hb3.mono HB2.out.size))
  have HX3 := Lib.hid ((hb3.block _ HZ2.out).trans HX2.out)
  have HL3 : Hid (∃ F, ListAt w3 w2.heap.size w.heap.size F ((xs.take 0).map wrV)) := ⟨.slice none 0 0, ha3, OwnN.nil⟩
  have hgo : w.heap.size < w2.heap.size := HZ2.out
  clear hW ha3 hz3 hb3 HB2 HX2 HZ2
  generalize w2.heap.size = go at *
  go_loopw [20] (fun iv wr => ∃ k : Nat, k ≤ xs.length ∧ iv = .int .i64 k ∧ Hid (∃ F, ListAt wr go w.heap.size F ((xs.take k).map wrV)) ∧ Hid (Below w.heap.size w wr) ∧ Hid (wr.heap[w.heap.size]? = some (.cells (VC.cells c0V).toArray 30 (0, 0)))) (fun iv _ => xs.length - (intOf iv).toNat)
  case atStart => exact ⟨0, Nat.zero_le _, rfl, HL3, HB3, HX3⟩
  case round =>
    clear HL3 HB3 HX3
    obtain ⟨k, hk, rfl, HL, HB, HX⟩ := hrel
    by_cases hlt : k < xs.length
    case neg =>
      have hkx : xs.take k = xs := List.take_of_length_le (by omega)
      rw [hkx] at HL
      obtain ⟨Fo, hla⟩ := HL.out
      have hrds := hla.rdS (S := fun b => b ≠ w.heap.size) (by rw [List.length_map]; omega) (fun b hb => by rcases hb with h | h <;> omega)
      have hrd := hrds.any
      have HRDS := Lib.hid hrds
      clear hrds
      have HMC : Hid (∀ j, j < 13 → wr.cell? ⟨go, 0 + j, none⟩ = (VC.cells ⟨hdK 6, .slice none 0 0, Fo, .slice none 0 0⟩)[j]?) := rowV hla.1
      have HONE := Lib.hid (vc_one hrd)
      have HCK := Lib.hid (VCheck_any (wrL xs) _ wr HNOD.out hrd)
      have HRD := Lib.hid hrd
      have hgol := hla.lt
      have HGO := Lib.hid hla.1
      clear hla hrd hkx HL
      generalize hq : checkV (wrL xs) = q at *
      clear hq
      go_wp2_with (refine wpl_load rfl rfl stVk rfl (cells_len _) HMC.out ?_)
      refine HCK.out.mono ?_
      rintro e w4 ⟨rfl, hb4⟩
      have HX4 := Lib.hid ((hb4.block _ (by omega)).trans HX.out)
      have HMC4 : Hid (∀ j, j < 13 → w4.cell? ⟨go, 0 + j, none⟩ = (VC.cells ⟨hdK 6, .slice none 0 0, Fo, .slice none 0 0⟩)[j]?) := rowV ((hb4.block _ hgol).trans HGO.out)
      have HB4 := Lib.hid (HB.out.trans (hb4.mono HB.out.size))
      have HRD4 := Lib.hid (HRDS.out.stays hb4)
      have HZ4 : Hid (w.heap.size < w4.heap.size) := by unfold Hid; have := hb4.size; omega
      clear hb4 HMC HCK HRD HGO HRDS
      by_cases hq0 : q = 0
      case neg =>
        have qn : ((q : Int) != 0) = true := by rw [bne_iff_ne]; omega
        replace HWR : Hid (RR = (v0, q)) := by unfold Hid; rw [HWR.out, if_pos hq0]
        clear hq0
        go_wp2_with (refine wpl_store rfl rfl stVk.2 rfl rfl (cs := VC.cells c0V) rfl (cells_len _) HONE0.out HX4.out (Nat.le_refl 13) (row := VC.cells c0V) rfl ?_; generalize hW3 : World.setRow _ _ _ = w5; obtain ⟨hd3, hk3, hz3, hb3⟩ := setRow_of hW3 HX4.out; clear hW3)
        obtain ⟨⟨z0, z1, z2, z3, z4, z5, z6, z7, z8, z9, z10, z11, z12⟩, zf⟩ := box13 hd3
        exact bodyPost_ret (v := .tuple #[aggV c0V, .int .i64 q]) (by simp [results, Tryz.results17, go_sem, z0, z1, z2, z3, z4, z5, z6, z7, z8, z9, z10, z11, z12]) rfl (HOUT.out _ c0V q (HB4.out.trans (hb3 _ (Nat.le_refl _))) (by rw [HWR.out]) (by rw [HWR.out]; exact v0_rd _ _))
      subst hq0
      replace HWR : Hid (RR = (wrL xs, 0)) := by unfold Hid; rw [HWR.out]; rfl
      go_wp2_with (first
        | refine wpl_load rfl rfl stVk rfl (cells_len _) HMC4.out ?_
        | (refine wpl_store rfl rfl stVk.2 rfl rfl (cs := VC.cells ⟨hdK 6, .slice none 0 0, Fo, .slice none 0 0⟩) rfl (cells_len _) HONE.out HX4.out (Nat.le_refl 13) (row := VC.cells ⟨hdK 6, .slice none 0 0, Fo, .slice none 0 0⟩) rfl ?_; generalize hW3 : World.setRow _ _ _ = w5; obtain ⟨hd3, hk3, hz3, hb3⟩ := setRow_of hW3 HX4.out; clear hW3))
      obtain ⟨⟨z0, z1, z2, z3, z4, z5, z6, z7, z8, z9, z10, z11, z12⟩, zf⟩ := box13 hd3
      exact bodyPost_ret (v := .tuple #[aggV ⟨hdK 6, .slice none 0 0, Fo, .slice none 0 0⟩, .int .i64 (0 : Nat)]) (by simp [results, Tryz.results17, go_sem, z0, z1, z2, z3, z4, z5, z6, z7, z8, z9, z10, z11, z12]) rfl (HOUT.out _ _ 0 (HB4.out.trans (hb3 _ (Nat.le_refl _))) (by rw [HWR.out]) (by rw [HWR.out]; exact (HRD4.out.kept (fun b hb _ => hk3 b hb) (by omega)).any))
    obtain ⟨g, o, rfl, hg, hat⟩ := HA.out (by omega)
    have hrd := HC.out k hlt
    have HRD := Lib.hid hrd
    have hc29 : Hid (∀ j, j < 29 → wr.cell? ⟨g, o + k * 29 + j, none⟩ = (cc k).cells[j]?) := fun j hj => (HB.out.cell hg).trans (hat k hlt j hj)
    have HONEc := Lib.hid (ccells_one hrd)
    obtain ⟨hp1, hp2, hp3, hp4⟩ := one_ok (HALL.out k hlt)
    obtain ⟨hs1, hs2, hs3, hs4, hs5⟩ := fewOne_is (HF.out k hlt)
    have HP1 := Lib.hid hp1
    have HTK := Lib.hid (List.take_succ_eq_append_getElem hlt)
    have HKO := Lib.hid (fun w' (hb : Below w.heap.size w w') => keyed_any xs[k] (cc k) w' (hrd.stays hb))
    have HOP : Hid ((cc k).op = xs[k].op) := hrd.op
    have HPOS : Hid ((cc k).pos = xs[k].pos) := hrd.pos
    clear hat hrd hp1
    generalize xs[k] = x at *
    generalize cc k = c at *
    obtain ⟨op, p, pos, o1, n1⟩ := c
    obtain ⟨xop, xp, xpos, xo, xn⟩ := x
    obtain rfl : op = xop := HOP.out
    obtain rfl : pos = xpos := HPOS.out
    clear HOP HPOS
    go_upto_region 10 with (first
      | refine wpl_load rfl rfl stC rfl (ccells_len _) hc29.out ?_
      | (refine wpl_new rfl rfl stC rfl (cs := CC.cells ⟨op, p, pos, o1, n1⟩) rfl (ccells_len _) HONEc.out rfl rfl rfl ?_; generalize hW1 : World.alloc wr _ = w1; obtain ⟨ha1, -, hz1, hb1⟩ := alloc_of' hW1; have HA1 := Lib.hid ha1; have HB1 := Lib.hid hb1; have HZ1 := Lib.hid hz1; clear hW1 ha1 hb1 hz1))
    generalize hW : World.alloc w1 _ = wm
    obtain ⟨ham, -, hzm, hbm⟩ := alloc_of hW
    have HS0 : Hid (St3 wm wm w1.heap.size w.heap.size []) := ⟨.slice none 0 0, ⟨ham, OwnN.nil⟩, Below.refl _ _⟩
    have hgm : wr.heap.size < w1.heap.size := by rw [HZ1.out]; omega
    have HCX := Lib.hid ((hbm.block wr.heap.size hgm).trans HA1.out)
    have HBM : Hid (Below wr.heap.size wr wm) := HB1.out.trans (hbm.mono (Nat.le_of_lt hgm))
    clear hW ham hzm hbm HA1 HB1 HZ1 hc29
    generalize w1.heap.size = gm at *
    have hgc : w.heap.size ≤ wr.heap.size := HB.out.size
    have HWB : Hid (∀ w', Below gm wm w' → Below w.heap.size w w') := fun w' hb => HB.out.trans ((HBM.out.mono hgc).trans (hb.mono (by omega)))
    generalize hgcx : wr.heap.size = gc at *
    have HCELL : Hid (∀ w', Below gm wm w' → _) := fun w' hb => rowC5 ((hb.block gc hgm).trans HCX.out)
    obtain ⟨y0, -⟩ := HCELL.out wm (Below.refl _ _)
    go_wp2_with fail
    refine (name_any _ _).mono ?_
    rintro e wx ⟨rfl, rfl⟩
    go_wp2_with fail
    refine (VText_any _ _).mono ?_
    rintro e w4 ⟨rfl, hb4⟩
    have HS1 := Lib.hid (HS0.out.below hb4)
    clear HS0 hb4 y0
    go_wp2_with fail
    refine (add_leaf kOp (hdT (nameS op)) wm w4 gm w.heap.size [] HS1.out (by omega) (by decide) (by decide) (okT _ (nameS_le op)) rfl).mono ?_
    rintro e w5 ⟨rfl, hs5⟩
    have HS5 := Lib.hid hs5
    obtain ⟨-, y1, -⟩ := HCELL.out w5 hs5.b
    clear hs5 HS1
    go_wp2_with fail
    have HT : Hid ((⟨(textL xp).toArray⟩ : ByteArray).size ≤ 1000000000) := by
      have := textL_le xp HP1.out
      show (textL xp).toArray.size ≤ 1000000000
      simp
      omega
    refine (PText_any p xp w5 (HRD.out.stays (HWB.out w5 HS5.out.b)).p HP1.out (HE.out.below (HWB.out w5 HS5.out.b))).mono ?_
    rintro e w6 ⟨rfl, hb6⟩
    have HS6 := Lib.hid (HS5.out.below hb6)
    clear hb6 HS5 y1
    go_wp2_with fail
    refine (VText_any _ _).mono ?_
    rintro e w7 ⟨rfl, hb7⟩
    have HS7 := Lib.hid (HS6.out.below hb7)
    clear hb7 HS6
    go_wp2_with fail
    refine (add_leaf kPath (hdT ⟨(textL xp).toArray⟩) wm w7 gm w.heap.size _ HS7.out (by omega) (by decide) (Nat.lt_of_le_of_lt (Nat.le_refl 1) (by decide)) (okT _ HT.out) rfl).mono ?_
    rintro e w8 ⟨rfl, hs8⟩
    have HS8 : Hid (St3 wm w8 gm w.heap.size (wr2 ⟨op, xp, pos, xo, xn⟩)) := hs8
    obtain ⟨y0, -, y2, y29, y3, y4⟩ := HCELL.out w8 hs8.b
    have Y29 := Lib.hid y29
    clear hs8 HS7 y0 y2 y29 y3 y4
    go_wp2_with (refine wpl_load rfl rfl stC rfl (ccells_len _) Y29.out ?_)
    refine (HKO.out w8 (HWB.out w8 HS8.out.b)).mono ?_
    rintro e w9 ⟨rfl, hb9⟩
    have HS9 := Lib.hid (HS8.out.below hb9)
    clear hb9 HS8 Y29 HKO
    have HW3 : Hid (wr3 ⟨op, xp, pos, xo, xn⟩ = wr2 ⟨op, xp, pos, xo, xn⟩ ++ if (movB op && lastK xp) = true then [(kAt, vI pos)] else []) := rfl
    have HW4 : Hid (wr4 ⟨op, xp, pos, xo, xn⟩ = wr3 ⟨op, xp, pos, xo, xn⟩ ++ if oldB op = true then [(kOld, xo)] else []) := rfl
    have HW5 : Hid (wr5 ⟨op, xp, pos, xo, xn⟩ = wr4 ⟨op, xp, pos, xo, xn⟩ ++ if newB op = true then [(kNew, xn)] else []) := rfl
    have HLEN := Lib.hid (wr5_len ⟨op, xp, pos, xo, xn⟩)
    have HL2 : Hid ((wr2 ⟨op, xp, pos, xo, xn⟩).length < 1000) := Nat.lt_of_le_of_lt (Nat.le_refl 2) (by decide)
    have HWV : Hid (wrV ⟨op, xp, pos, xo, xn⟩ = .mk (hdK 7) [] (wr5 ⟨op, xp, pos, xo, xn⟩)) := rfl
    generalize wr5 ⟨op, xp, pos, xo, xn⟩ = l5 at *
    generalize wr4 ⟨op, xp, pos, xo, xn⟩ = l4 at *
    generalize wr3 ⟨op, xp, pos, xo, xn⟩ = l3 at *
    generalize wr2 ⟨op, xp, pos, xo, xn⟩ = l2 at *
    generalize (movB op && lastK xp) = kb at *
    go_upto_if 39 with fail
    go_cut [] (fun wx => St3 wm wx gm w.heap.size l3)
    case first =>
      cases kb with
      | false =>
        have HF : Hid (St3 wm w9 gm w.heap.size l3) := by unfold Hid; rw [HW3.out]; simpa using HS9.out
        go_wp2_with fail
        go_meet
        exact HF.out
      | true =>
        replace HW3 : Hid (l3 = l2 ++ [(kAt, vI pos)]) := HW3.out
        obtain ⟨np, rfl⟩ := Int.eq_ofNat_of_zero_le hp2
        obtain ⟨-, -, y2, -⟩ := HCELL.out w9 HS9.out.b
        go_wp2_with fail
        refine (VInt_any np _ (by omega) (intR np) rfl).mono ?_
        rintro e w10 ⟨rfl, hb10⟩
        have HS10 := Lib.hid (HS9.out.below hb10)
        clear hb10 HS9 y2
        go_wp2_with fail
        refine (add_leaf kAt _ wm w10 gm w.heap.size _ HS10.out (by omega) (by decide) HL2.out (okI np) rfl).mono ?_
        rintro e w11 ⟨rfl, hs11⟩
        have HF : Hid (St3 wm w11 gm w.heap.size l3) := by unfold Hid; rw [HW3.out]; exact hs11
        clear hs11 HS10
        go_wp2_with fail
        go_meet
        exact HF.out
    case rest =>
    have HS9 := Lib.hid hcut
    clear hcut
    obtain ⟨y0, -⟩ := HCELL.out wc HS9.out.b
    go_wp2_with fail
    refine (hasOld_any _ _).mono ?_
    rintro e wq ⟨rfl, rfl⟩
    clear y0
    generalize oldB op = ob at *
    go_upto_if 47 with fail
    go_cut [] (fun wx => St3 wm wx gm w.heap.size l4)
    case first =>
      cases ob with
      | false =>
        have HF : Hid (St3 wm wc gm w.heap.size l4) := by unfold Hid; rw [HW4.out]; simpa using HS9.out
        go_wp2_with fail
        go_meet
        exact HF.out
      | true =>
        replace HW4 : Hid (l4 = l3 ++ [(kOld, xo)]) := HW4.out
        obtain ⟨-, -, -, -, y3, -⟩ := HCELL.out wc HS9.out.b
        have HY := Lib.hid y3
        have HCP := Lib.hid (Copy_any xo o1 wc (by omega) (by omega) (HRD.out.stays (HWB.out wc HS9.out.b)).o)
        have HLT : Hid (l3.length < 1000) := by unfold Hid; have := HLEN.out; omega
        clear y3
        go_wp2_with (refine wpl_load rfl rfl stVk rfl (cells_len _) HY.out ?_)
        refine HCP.out.mono ?_
        rintro e w10 ⟨c10, rfl, hr10, hb10⟩
        have HR10 := Lib.hid hr10
        have HB10 := Lib.hid hb10
        clear hr10 hb10 HY HCP
        go_wp2_with fail
        refine (add_copy kOld c10 xo wm wc w10 gm w.heap.size _ HS9.out HB10.out HR10.out (by omega) (by decide) HLT.out).mono ?_
        rintro e w11 ⟨rfl, hs11⟩
        have HF : Hid (St3 wm w11 gm w.heap.size l4) := by unfold Hid; rw [HW4.out]; exact hs11
        clear hs11
        go_wp2_with fail
        go_meet
        exact HF.out
    case rest =>
    clear HS9
    have HS9 := Lib.hid hcut
    clear hcut
    obtain ⟨wc', rfl⟩ : ∃ w' : World, w' = wc := ⟨_, rfl⟩
    obtain ⟨y0, -⟩ := HCELL.out wc' HS9.out.b
    go_wp2_with fail
    refine (hasNew_any _ _).mono ?_
    rintro e wq ⟨rfl, rfl⟩
    clear y0
    generalize newB op = ob at *
    go_upto_if 55 with fail
    go_cut [] (fun wx => St3 wm wx gm w.heap.size l5)
    case first =>
      cases ob with
      | false =>
        have HF : Hid (St3 wm wc' gm w.heap.size l5) := by unfold Hid; rw [HW5.out]; simpa using HS9.out
        go_wp2_with fail
        go_meet
        exact HF.out
      | true =>
        replace HW5 : Hid (l5 = l4 ++ [(kNew, xn)]) := HW5.out
        obtain ⟨-, -, -, -, -, y4⟩ := HCELL.out wc' HS9.out.b
        have HY := Lib.hid y4
        have HCP := Lib.hid (Copy_any xn n1 wc' (by omega) (by omega) (HRD.out.stays (HWB.out wc' HS9.out.b)).n)
        have HLT : Hid (l4.length < 1000) := by unfold Hid; have := HLEN.out; omega
        clear y4
        go_wp2_with (refine wpl_load rfl rfl stVk rfl (cells_len _) HY.out ?_)
        refine HCP.out.mono ?_
        rintro e w10 ⟨c10, rfl, hr10, hb10⟩
        have HR10 := Lib.hid hr10
        have HB10 := Lib.hid hb10
        clear hr10 hb10 HY HCP
        go_wp2_with fail
        refine (add_copy kNew c10 xn wm wc' w10 gm w.heap.size _ HS9.out HB10.out HR10.out (by omega) (by decide) HLT.out).mono ?_
        rintro e w11 ⟨rfl, hs11⟩
        have HF : Hid (St3 wm w11 gm w.heap.size l5) := by unfold Hid; rw [HW5.out]; exact hs11
        clear hs11
        go_wp2_with fail
        go_meet
        exact HF.out
    case rest =>
    clear HS9
    have HS9 := Lib.hid hcut
    clear hcut
    have HTL : Hid (((xs.take k).map wrV).length < 100000000000) := by unfold Hid; rw [List.length_map, List.length_take]; omega
    have HTM : Hid ((xs.take (k + 1)).map wrV = (xs.take k).map wrV ++ [wrV ⟨op, xp, pos, xo, xn⟩]) := by unfold Hid; rw [HTK.out, List.map_append]; rfl
    rw [HWV.out] at HTM
    generalize (xs.take k).map wrV = ll at *
    clear HTK
    obtain ⟨Fo, hla⟩ := HL.out
    obtain ⟨F, hmap, hbmc⟩ := HS9.out
    have hwc : Below wr.heap.size wr wc := by rw [hgcx]; exact HBM.out.trans (hbmc.mono (by omega))
    have hblk := hla.2.blk
    have hlac := hla.below hwc
    have HGO := Lib.hid hlac.1
    obtain ⟨cs, hcl, hown, hrds⟩ := hlac.2
    obtain ⟨va, vcap, rfl⟩ := own_form hown
    have HRS := Lib.hid hrds
    have HCL := Lib.hid hcl
    have HOWN := Lib.hid hown
    have hgoc : go < gc := by have := hla.lt; omega
    have HX9 : Hid (RdI wc (fun b => TB w.heap.size go b ∧ some b ≠ (Value.slice va ll.length vcap).ownBlock) ⟨hdK 7, .slice none 0 0, .slice none 0 0, F⟩ (.mk (hdK 7) [] l5)) := by
      refine hmap.rd (by have := HLEN.out; omega) (fun b hb => ⟨?_, fun h => ?_⟩)
      · rcases hb with hb | hb
        · exact .inl hb
        · exact .inr (by omega)
      · have := hblk b h.symm
        rcases hb with hb | hb <;> omega
    have HMC : Hid (∀ j, j < 13 → wc.cell? ⟨gm, 0 + j, none⟩ = (VC.cells ⟨hdK 7, .slice none 0 0, .slice none 0 0, F⟩)[j]?) := rowV hmap.1
    have HONEM := Lib.hid (vc_one HX9.out.any)
    obtain ⟨⟨-, -, -, -, -, -, -, -, -, -, -, x11, -⟩, xf⟩ := box13 HGO.out
    have HWC := Lib.hid hwc
    have hzc : go + 1 ≤ wc.heap.size := by have := hlac.lt; omega
    have HGX : Hid (wr.heap.size = gc) := hgcx
    clear hla hmap hlac hown hrds hcl hblk hwc hbmc xf hgcx HS9 HL
    go_wp2_with (first
      | refine wpl_load rfl rfl stVk rfl (cells_len _) HMC.out ?_
      | refine wpl_slice rfl rfl elemV rfl rfl (cells_len _) (by decide) ?_
      | (at_builtin; refine wp_push2 elemV rfl _ _ rfl HOWN.out (VC.cells ⟨hdK 7, .slice none 0 0, .slice none 0 0, F⟩) rfl HONEM.out rfl rfl HTL.out hzc ?_; intro v' w5 hown5 hg5 hb5 hf5; obtain ⟨va5, vcap5, rfl⟩ := own_form hown5; have hgo5 : some go ≠ (Value.slice va ll.length vcap).ownBlock := (fun h => by have := (HOWN.out.lt go h.symm).1; omega); have HGO5 := Lib.hid ((hg5.block go (by omega) hgo5).trans HGO.out); have HOWN5 := Lib.hid hown5; have HG5 := Lib.hid hg5; have HB5 := Lib.hid hb5; have HF5 := Lib.hid hf5; clear hown5 hg5 hb5 hf5 hgo5)
      | (refine wpl_store rfl rfl st27 rfl rfl rfl rfl (by intro u hu; rw [List.mem_singleton.1 hu]; rfl) HGO5.out (Nat.le_succ 12) (row := VC.cells ⟨hdK 6, .slice none 0 0, .slice va5 (ll.length + 1) vcap5, .slice none 0 0⟩) rfl ?_; generalize hW6 : World.setRow _ _ _ = w6; obtain ⟨hd6, hk6, hz6, hb6⟩ := setRow_of hW6 HGO5.out; clear hW6))
    have HLF : Hid (∃ F, ListAt w6 go w.heap.size F ((xs.take (k + 1)).map wrV)) := by
      refine ⟨_, hd6, ?_⟩
      rw [HTM.out]
      refine OwnN.push (w := wc) stbV HCL.out HRS.out HX9.out ?_ (fun b hT hb hne => ?_) ?_ HF5.out
      · exact HOWN5.out.kept (row := some go) ⟨(hb6 go (Nat.le_refl _)).os, (hb6 go (Nat.le_refl _)).tape, (hb6 go (Nat.le_refl _)).output, by omega, fun b hb hne => hk6 b (fun h => hne (by rw [h]))⟩ (.inr (fun h => by have := (HOWN5.out.lt go h).1; omega))
      · exact (hk6 b (by rcases hT with h | h <;> omega)).trans (HG5.out.block b hb hne)
      · have := HG5.out.size; omega
    have hb0 := HWC.out.size
    have hb1 : Below w.heap.size w w6 := ((HB.out.trans (HWC.out.mono HB.out.size)).trans (HB5.out.mono (by omega))).trans (hb6 _ (by omega))
    have HBF := Lib.hid hb1
    have HXF := Lib.hid ((hk6 _ (by omega)).trans ((HB5.out.block _ (by omega)).trans ((HWC.out.block _ (by have := HGX.out; omega)).trans HX.out)))
    clear hd6 hk6 hz6 hb6 hb0 hb1
    go_wp2_with fail
    exact ⟨⟨k + 1, by omega, rfl, HLF, HBF, HXF⟩, by simp [intOf]; omega⟩
end Go.Proofs.YthdninnjjmhpfaaGreatDoor

namespace Go.Proofs.YthdninnjjmhpfaaGreatDoor
open Go.RowKit
set_option maxHeartbeats 8000000
set_option maxRecDepth 100000

/-- The words of the operators, in memory. -/
def WordsOk (w : World) : Prop := 0 < w.heap.size ∧ ∀ n : Nat, 1 ≤ n → n ≤ 4 → w.cell? ⟨0, n, none⟩ = some (.string (nameS n))
theorem WordsOk.below {w w' : World} (h : WordsOk w) (hb : Below w.heap.size w w') : WordsOk w' :=
  ⟨Nat.lt_of_lt_of_le h.1 hb.size, fun n h1 h2 => (hb.cell (p := ⟨_, n, none⟩) h.1).trans (h.2 n h1 h2)⟩
/-- The block g holds a map whose fields are the row F of one's own, from B on; the values in them lie below B0. -/
def MapR (w : World) (g B0 B : Nat) (F : Value) (fl : List (ByteArray × V)) : Prop :=
  w.heap[g]? = some (.cells (VC.cells ⟨hdK 7, .slice none 0 0, .slice none 0 0, F⟩).toArray 30 (0, 0)) ∧ OwnN 67 14 fcells RdF (fun b => b < B0) w B F fl ∧ F.ownBlock ≠ some g ∧ B ≤ g
theorem MapR.lt {w : World} {g B0 B : Nat} {F : Value} {fl : List (ByteArray × V)} (h : MapR w g B0 B F fl) : g < w.heap.size := by
  rcases Nat.lt_or_ge g w.heap.size with h' | h'
  · exact h'
  · have := h.1
    rw [Array.getElem?_eq_none h'] at this
    cases this
theorem MapR.below {w w' : World} {g B0 B : Nat} {F : Value} {fl : List (ByteArray × V)} (h : MapR w g B0 B F fl) (hb : Below w.heap.size w w') : MapR w' g B0 B F fl :=
  ⟨(hb.block g h.lt).trans h.1, h.2.1.below stbF hb, h.2.2⟩
/-- Where the region stands that lays the map: its box, if it is laid; the row of its fields, if it is laid. -/
def RS (w0 w : World) (R : List Value) (og oh : Option Nat) : Prop :=
  Below w0.heap.size w0 w ∧ (∀ g, og = some g → w0.heap.size ≤ g ∧ g < w.heap.size ∧ w.heap[g]? = some (.cells (VC.cells c0V).toArray 30 (0, 0))) ∧ (∀ h, oh = some h → w0.heap.size ≤ h ∧ h < w.heap.size ∧ w.heap[h]? = some (.cells R.toArray 67 (0, 0))) ∧ (∀ g, og = some g → oh ≠ some g)
theorem RS.below {w0 w w' : World} {R : List Value} {og oh : Option Nat} (h : RS w0 w R og oh) (hb : Below w.heap.size w w') : RS w0 w' R og oh :=
  ⟨h.1.trans (hb.mono h.1.size), fun g hg => ⟨(h.2.1 g hg).1, Nat.lt_of_lt_of_le (h.2.1 g hg).2.1 hb.size, (hb.block g (h.2.1 g hg).2.1).trans (h.2.1 g hg).2.2⟩, fun g hg => ⟨(h.2.2.1 g hg).1, Nat.lt_of_lt_of_le (h.2.2.1 g hg).2.1 hb.size, (hb.block g (h.2.2.1 g hg).2.1).trans (h.2.2.1 g hg).2.2⟩, h.2.2.2⟩
theorem RS.box {w0 w w' : World} {R : List Value} {oh : Option Nat} (h : RS w0 w R none oh) (hW : w.alloc (.cells (VC.cells c0V).toArray 30) = w') : RS w0 w' R (some w.heap.size) oh := by
  obtain ⟨ha, -, hz, hb⟩ := alloc_of hW
  refine ⟨h.1.trans (hb.mono h.1.size), fun g hg => ?_, (h.below hb).2.2.1, fun g hg hh => ?_⟩
  · cases hg
    exact ⟨h.1.size, by omega, ha⟩
  · cases hg
    have := (h.2.2.1 _ hh).2.1
    omega
theorem RS.row {w0 w w' : World} {R : List Value} {og : Option Nat} (h : RS w0 w R og none) (hW : w.alloc (.cells R.toArray 67) = w') : RS w0 w' R og (some w.heap.size) := by
  obtain ⟨ha, -, hz, hb⟩ := alloc_of hW
  refine ⟨h.1.trans (hb.mono h.1.size), (h.below hb).2.1, fun g hg => ?_, fun g hg hh => ?_⟩
  · cases hg
    exact ⟨h.1.size, by omega, ha⟩
  · cases hh
    have := (h.2.1 _ hg).2.1
    omega
/-- The map of two leaves, laid. -/
def MapPost (w0 : World) (B0 : Nat) (fl : List (ByteArray × V)) (v : Value) (w : World) : Prop := ∃ g F, v = .pointer (some ⟨g, 0, none⟩) ∧ MapR w g B0 w0.heap.size F fl ∧ Below w0.heap.size w0 w
theorem RS.map {w0 w w' : World} {k1 k2 : ByteArray} {h1 h2 : Hd} {B0 g h : Nat} (hs : RS w0 w (fcells (k1, ⟨h1, .slice none 0 0, .slice none 0 0, .slice none 0 0⟩) ++ fcells (k2, ⟨h2, .slice none 0 0, .slice none 0 0, .slice none 0 0⟩)) (some g) (some h)) (hk1 : k1.size ≤ 1000000000) (hk2 : k2.size ≤ 1000000000) (ok1 : HdOk h1) (ok2 : HdOk h2) (hb1 : h1.bytes = []) (hb2 : h2.bytes = [])
    (hW : w.setRow g (VC.cells ⟨hdK 7, .slice none 0 0, .slice none 0 0, .slice (some ⟨h, 0, none⟩) 2 2⟩).toArray = w') : MapPost w0 B0 [(k1, .mk h1 [] []), (k2, .mk h2 [] [])] (.pointer (some ⟨g, 0, none⟩)) w' := by
  obtain ⟨a1, a2, a3⟩ := hs.2.1 g rfl
  obtain ⟨b1, b2, b3⟩ := hs.2.2.1 h rfl
  have hne : h ≠ g := fun hh => hs.2.2.2 g rfl (by rw [hh])
  obtain ⟨c1, c2, c3, c4⟩ := setRow_of hW a3
  refine ⟨g, _, rfl, ⟨c1, ⟨[(k1, ⟨h1, .slice none 0 0, .slice none 0 0, .slice none 0 0⟩), (k2, ⟨h2, .slice none 0 0, .slice none 0 0, .slice none 0 0⟩)], rfl, ?_, fun i hi hi' => ?_⟩, fun hh => hne (by cases hh; rfl), a1⟩, hs.1.trans (c4 _ a1)⟩
  · refine ⟨rfl, .inr ⟨h, 2, _, rfl, b1, (c2 h hne).trans b3, Nat.le_refl _, by decide, rfl, ?_⟩⟩
    rfl
  · match i, hi, hi' with
    | 0, _, _ => exact ⟨rfl, hk1, leaf_rd h1 ok1 hb1 _ _⟩
    | 1, _, _ => exact ⟨rfl, hk2, leaf_rd h2 ok2 hb2 _ _⟩
/-- The map under way. -/
def MS (w0 w : World) (g B0 : Nat) (fl : List (ByteArray × V)) : Prop := ∃ F, MapR w g B0 w0.heap.size F fl ∧ Below w0.heap.size w0 w
theorem MS.below {w0 w w' : World} {g B0 : Nat} {fl : List (ByteArray × V)} (h : MS w0 w g B0 fl) (hb : Below w.heap.size w w') : MS w0 w' g B0 fl := by
  obtain ⟨F, h1, h2⟩ := h
  exact ⟨F, h1.below hb, h2.trans (hb.mono h2.size)⟩
theorem MS.b {w0 w : World} {g B0 : Nat} {fl : List (ByteArray × V)} (h : MS w0 w g B0 fl) : Below w0.heap.size w0 w := by
  obtain ⟨F, h1, h2⟩ := h
  exact h2
/-- One field more: the row grown, then stored. -/
theorem MS.push {w0 w w5 w6 : World} {g B0 : Nat} {F F' : Value} {fl : List (ByteArray × V)} {cs : List (ByteArray × VC)} {key : ByteArray} {c : VC} {x : V} (hB : B0 ≤ w0.heap.size) (hm : MapR w g B0 w0.heap.size F fl) (hb : Below w0.heap.size w0 w) (hcl : cs.length = fl.length)
    (hrd : ∀ i (h : i < fl.length) (h' : i < cs.length), RdF w (fun b => b < B0 ∧ some b ≠ F.ownBlock) cs[i] fl[i]) (hk : key.size ≤ 1000000000) (hx : RdI w (fun b => b < B0) c x) (hown : w5.ownsRow w0.heap.size 67 14 F' (fl.length + 1) (cs.flatMap fcells ++ fcells (key, c)))
    (hg : w.grownBy w5 F.ownBlock) (hb5 : Below w0.heap.size w w5) (hf : FreshRow w F F') (hW : w5.setRow g (VC.cells ⟨hdK 7, .slice none 0 0, .slice none 0 0, F'⟩).toArray = w6) : MS w0 w6 g B0 (fl ++ [(key, x)]) := by
  obtain ⟨m1, m2, m3, m4⟩ := hm
  have hgl : g < w.heap.size := MapR.lt ⟨m1, m2, m3, m4⟩
  have hblk := m2.blk
  have h5 := (hg.block g hgl (Ne.symm m3)).trans m1
  obtain ⟨c1, c2, c3, c4⟩ := setRow_of hW h5
  have hne : F'.ownBlock ≠ some g := by
    intro h
    rcases hf with hf | hf
    · rw [hf] at h; exact m3 h
    · have := hf g h; omega
  refine ⟨F', ⟨c1, OwnN.push (w := w) stbF hcl hrd (c := (key, c)) (x := (key, x)) ⟨rfl, hk, hx.mono fun b hb' => ⟨hb', fun h => by have := hblk b h.symm; omega⟩⟩ ?_ (fun b hT hb' hn => ?_) ?_ hf, hne, m4⟩, (hb.trans hb5).trans (c4 _ m4)⟩
  · exact hown.kept (row := some g) ⟨(c4 g (Nat.le_refl _)).os, (c4 g (Nat.le_refl _)).tape, (c4 g (Nat.le_refl _)).output, by omega, fun b hb hne => c2 b (fun h => hne (by rw [h]))⟩ (.inr (fun h => hne h))
  · exact (c2 b (by omega)).trans (hg.block b hb' hn)
  · have := hg.size; omega
theorem MapR.rd {w : World} {g B0 B : Nat} {F : Value} {fl : List (ByteArray × V)} (h : MapR w g B0 B F fl) (hl : fl.length ≤ 140737488351232) : RdI w (fun b => b < B0 ∨ B ≤ b) ⟨hdK 7, .slice none 0 0, .slice none 0 0, F⟩ (.mk (hdK 7) [] fl) := by
  have nb : ∀ S : Nat → Prop, BlkIn S (.slice none 0 0) := fun S g o p n cap hv _ => by cases hv
  obtain ⟨fc, h1, h2, h3⟩ := h.2.1.sl stbF fcells_len (⟨#[]⟩, c0V) hl (S := fun b => b < B0 ∨ B ≤ b) (fun b hb => .inl hb) (fun b hb _ => .inr hb)
  exact RdI.of_rows (okK 7 ⟨by decide, by decide⟩) Sl.nil (nb _) ⟨fun _ => c0V, Sl.nil, fun i hi => absurd hi (Nat.not_lt_zero _), nb _⟩ ⟨fc, h1, h2, h3⟩
/-- What written hands back. -/
def WdPost (w : World) (B : Nat) (x : Ch) (e : Ending) (w' : World) : Prop := ∃ c, e = .returned (aggV c) ∧ RdI w' (fun b => b < B ∨ w.heap.size ≤ b) c (wrV x) ∧ Below w.heap.size w w'
theorem written_any (x : Ch) (c : CC) (w : World) (B : Nat) (hB : B ≤ w.heap.size) (hx : RdC w (fun b => b < B) c x) (h1 : 1 ≤ x.op) (h4 : x.op ≤ 4) (hv : validP x.p = true) (hp0 : 0 ≤ x.pos) (hp1 : x.pos ≤ 65536) (hw : WordsOk w) :
    Calls Tryz.prog 42 #[aggC c] w (WdPost w B x) := by
  have HONEc := Lib.hid (ccells_one hx)
  have HOP : Hid (c.op = x.op) := hx.op
  have HPOS : Hid (c.pos = x.pos) := hx.pos
  have HRD := Lib.hid hx
  have HV := Lib.hid hv
  have HW := Lib.hid hw
  clear hx hv hw
  obtain ⟨op, p, pos, o1, n1⟩ := c
  obtain ⟨xop, xp, xpos, xo, xn⟩ := x
  obtain rfl : op = xop := HOP.out
  obtain rfl : pos = xpos := HPOS.out
  clear HOP HPOS
  obtain ⟨n, rfl⟩ := Int.eq_ofNat_of_zero_le (show (0 : Int) ≤ op from by dsimp only at h1; omega)
  obtain ⟨np, rfl⟩ := Int.eq_ofNat_of_zero_le hp0
  dsimp only at h1 h4 hp1
  clear hp0
  go_enter Tryz.func42, Tryz.ntmps42
  go_wp2_with fail
  generalize hW1 : World.alloc w _ = w1
  obtain ⟨ha1, -, hz1, hb1⟩ := alloc_of hW1
  generalize hW2 : World.alloc w1 _ = wm
  obtain ⟨ha2, -, hz2, hb2⟩ := alloc_of hW2
  have HCX : Hid (wm.heap[w.heap.size]? = some (.cells (CC.cells ⟨n, p, np, o1, n1⟩).toArray 54 (0, 0))) := (hb2.block _ (by omega)).trans ha1
  have HRX : Hid (wm.heap[w.heap.size + 1]? = some (.cells (VC.cells c0V).toArray 30 (0, 0))) := by rw [← hz1]; exact ha2
  have HBM : Hid (Below w.heap.size w wm) := hb1.trans (hb2.mono (by omega))
  have HZM : Hid (wm.heap.size = w.heap.size + 2) := by unfold Hid; omega
  clear hW1 hW2 ha1 ha2 hb1 hb2 hz1 hz2
  have HSW : Hid (∀ w', Below wm.heap.size wm w' → w'.cell? ⟨w.heap.size, 0, none⟩ = some (.int .i64 n) ∧ w'.cell? ⟨w.heap.size, 1, none⟩ = some p ∧ w'.cell? ⟨0, n, none⟩ = some (.string (nameS n))) := by
    intro w' hb
    obtain ⟨y0, y1, -⟩ := rowC5 ((hb.block w.heap.size (by rw [HZM.out]; omega)).trans HCX.out)
    exact ⟨y0, y1, ((HW.out.below HBM.out).below hb).2 n (by omega) (by omega)⟩
  have HRDP : Hid (∀ w', Below wm.heap.size wm w' → Rd w' p xp) := fun w' hb => ((HRD.out.stays HBM.out).stays hb).p
  have HT : Hid ((⟨(textL xp).toArray⟩ : ByteArray).size ≤ 1000000000) := by
    have := textL_le xp HV.out
    show (textL xp).toArray.size ≤ 1000000000
    simp
    omega
  have HONE7 : Hid (∀ h : Nat, ∀ u ∈ (VC.cells ⟨hdK 7, .slice none 0 0, .slice none 0 0, .slice (some ⟨h, 0, none⟩) 2 2⟩), u.oneCell' = true) := by
    intro h u hu
    simp only [VC.cells, List.mem_cons, List.not_mem_nil, or_false] at hu
    rcases hu with rfl | rfl | rfl | rfl | rfl | rfl | rfl | rfl | rfl | rfl | rfl | rfl | rfl <;> rfl
  go_upto_region 2 with fail
  go_cut [3] (fun v wx => MapPost wm B (wr2 ⟨n, xp, np, xo, xn⟩) v wx)
  case first =>
    refine wp_region_held_drew (S := fun w' => w'.cell? ⟨w.heap.size, 0, none⟩ = some (.int .i64 n) ∧ w'.cell? ⟨w.heap.size, 1, none⟩ = some p ∧ w'.cell? ⟨0, n, none⟩ = some (.string (nameS n))) (by kernel_rfl) (HSW.out _ (drewB wm)) (fun hHeld => ?_)
    have HS : Hid (RS wm wm.drew (fcells (kOp, ⟨hdT (nameS n), .slice none 0 0, .slice none 0 0, .slice none 0 0⟩) ++ fcells (kPath, ⟨hdT ⟨(textL xp).toArray⟩, .slice none 0 0, .slice none 0 0, .slice none 0 0⟩)) none none) := ⟨drewB wm, (fun g hg => by cases hg), (fun g hg => by cases hg), (fun g hg => by cases hg)⟩
    have hn0 : (0 : Int) ≤ (n : Int) := by omega
    have hn5 : (n : Int) < 5 := by omega
    clear h1 h4
    generalize wm.drew = wd at *
    refine take_at 0 (some 4) rfl rfl (by kernel_rfl) (by kernel_rfl) (by kernel_rfl) (fun _ _ _ h => h) (Or.inl ⟨by rfl, fun w hSw => by (obtain ⟨q0, q1, q2⟩ := hSw; go_simp; with_reducible rfl)⟩) hHeld ?_
    simp only [Act.put, List.setIfInBounds_toArray, List.set_cons_zero, List.set_cons_succ]
    refine take_at 1 (some 5) rfl rfl (by kernel_rfl) (by kernel_rfl) (by kernel_rfl) (fun _ _ _ h => h) (Or.inl ⟨by rfl, fun w hSw => by (obtain ⟨q0, q1, q2⟩ := hSw; go_simp; with_reducible rfl)⟩) hHeld ?_
    simp only [Act.put, List.setIfInBounds_toArray, List.set_cons_zero, List.set_cons_succ]
    refine take_at 2 (some 6) rfl rfl (by kernel_rfl) (by kernel_rfl) (by kernel_rfl) (fun _ _ _ h => h) (Or.inl ⟨by rfl, fun w hSw => by (obtain ⟨q0, q1, q2⟩ := hSw; go_simp; with_reducible rfl)⟩) hHeld ?_
    simp only [Act.put, List.setIfInBounds_toArray, List.set_cons_zero, List.set_cons_succ]
    refine take_at 3 (some 7) rfl rfl (by kernel_rfl) (by kernel_rfl) (by kernel_rfl) (fun _ _ _ h => h) (Or.inl ⟨by rfl, fun w hSw => by (obtain ⟨q0, q1, q2⟩ := hSw; go_simp; with_reducible rfl)⟩) hHeld ?_
    simp only [Act.put, List.setIfInBounds_toArray, List.set_cons_zero, List.set_cons_succ]
    refine take_at 6 (some 10) rfl rfl (by kernel_rfl) (by kernel_rfl) (by kernel_rfl) (fun _ _ _ h => h) (Or.inl ⟨by rfl, fun w hSw => by (obtain ⟨q0, q1, q2⟩ := hSw; go_simp; with_reducible rfl)⟩) hHeld ?_
    simp only [Act.put, List.setIfInBounds_toArray, List.set_cons_zero, List.set_cons_succ]
    refine take_at 7 (some 11) rfl rfl (by kernel_rfl) (by kernel_rfl) (by kernel_rfl) (fun _ _ _ h => h) (Or.inl ⟨by rfl, fun w hSw => by (obtain ⟨q0, q1, q2⟩ := hSw; go_simp; with_reducible rfl)⟩) hHeld ?_
    simp only [Act.put, List.setIfInBounds_toArray, List.set_cons_zero, List.set_cons_succ]
    refine wpAnyH_ready (rs := [4, 13]) (by kernel_rfl) (by simp) ?_
    refine AllReadyH.cons rfl (fun K hK => ?_) (AllReadyH.cons rfl (fun K hK => ?_) (AllReadyH.nil))
    · go_simp
      refine (RText56_any _ _).mono ?_
      rintro e w11 ⟨rfl, hb⟩
      replace HS := Lib.hid (HS.out.below hb)
      clear hb
      refine hK.out _ _ (HSW.out _ HS.out.1) (fun hHeld => ?_)
      clear hK K
      refine take_at 5 (some 9) rfl rfl (by kernel_rfl) (by kernel_rfl) (by kernel_rfl) (fun _ _ _ h => h) (Or.inl ⟨by rfl, fun w hSw => by (obtain ⟨q0, q1, q2⟩ := hSw; go_simp; with_reducible rfl)⟩) hHeld ?_
      simp only [Act.put, List.setIfInBounds_toArray, List.set_cons_zero, List.set_cons_succ]
      refine wpAnyH_ready (rs := [8, 13]) (by kernel_rfl) (by simp) ?_
      refine AllReadyH.cons rfl (fun K hK => ?_) (AllReadyH.cons rfl (fun K hK => ?_) (AllReadyH.nil))
      · go_simp
        refine (RText_any p xp _ (HRDP.out _ HS.out.1) HV.out).mono ?_
        rintro e w12 ⟨rfl, hb⟩
        replace HS := Lib.hid (HS.out.below hb)
        clear hb
        refine hK.out _ _ (HSW.out _ HS.out.1) (fun hHeld => ?_)
        clear hK K
        refine wpAnyH_ready (rs := [9, 13]) (by kernel_rfl) (by simp) ?_
        refine AllReadyH.cons rfl (fun K hK => ?_) (AllReadyH.cons rfl (fun K hK => ?_) (AllReadyH.nil))
        · go_simp
          refine (RText56_any _ _).mono ?_
          rintro e w13 ⟨rfl, hb⟩
          replace HS := Lib.hid (HS.out.below hb)
          clear hb
          refine hK.out _ _ (HSW.out _ HS.out.1) (fun hHeld => ?_)
          clear hK K
          refine take_at 10 (some 14) rfl rfl (by kernel_rfl) (by kernel_rfl) (by kernel_rfl) (fun _ _ _ h => h) (Or.inl ⟨by rfl, fun w hSw => by (obtain ⟨q0, q1, q2⟩ := hSw; go_simp; with_reducible rfl)⟩) hHeld ?_
          simp only [Act.put, List.setIfInBounds_toArray, List.set_cons_zero, List.set_cons_succ]
          refine wpAnyH_ready (rs := [11, 13]) (by kernel_rfl) (by simp) ?_
          refine AllReadyH.cons rfl (fun K hK => ?_) (AllReadyH.cons rfl (fun K hK => ?_) (AllReadyH.nil))
          · go_simp
            generalize hW : World.alloc _ _ = w14
            replace HS := Lib.hid (HS.out.row hW)
            clear hW
            generalize w13.heap.size = h at HS ⊢
            refine hK.out _ _ (HSW.out _ HS.out.1) (fun hHeld => ?_)
            clear hK K
            refine take_at 12 (some 16) rfl rfl (by kernel_rfl) (by kernel_rfl) (by kernel_rfl) (fun _ _ _ h => h) (Or.inl ⟨by rfl, fun w hSw => by (obtain ⟨q0, q1, q2⟩ := hSw; go_simp; with_reducible rfl)⟩) hHeld ?_
            simp only [Act.put, List.setIfInBounds_toArray, List.set_cons_zero, List.set_cons_succ]
            refine wpAnyH_ready (rs := [13]) (by kernel_rfl) (by simp) ?_
            refine AllReadyH.cons rfl (fun K hK => ?_) (AllReadyH.nil)
            go_simp
            generalize hW : World.alloc _ _ = w15
            replace HS := Lib.hid (HS.out.box hW)
            clear hW
            generalize w14.heap.size = g at HS ⊢
            refine hK.out _ _ (HSW.out _ HS.out.1) (fun hHeld => ?_)
            clear hK K
            refine wpAnyH_ready (rs := [14]) (by kernel_rfl) (by simp) ?_
            refine AllReadyH.cons rfl (fun K hK => ?_) AllReadyH.nil
            refine step_store (cs := VC.cells ⟨hdK 7, .slice none 0 0, .slice none 0 0, .slice (some ⟨h, 0, none⟩) 2 2⟩) _ rfl _ _ rfl stVk.2 g 0 rfl rfl rfl rfl (by intro u hu; exact HONE7.out h u hu) (HS.out.2.1 g rfl).2.2 (Nat.le_refl 13) rfl ?_
            generalize hW : World.setRow _ _ _ = wz
            have HFIN := Lib.hid (HS.out.map (B0 := B) (by decide) (by decide) (okT _ (nameS_le n)) (okT _ HT.out) rfl rfl hW)
            obtain ⟨g9, F9, hv9, hm9, hb9⟩ := HFIN.out
            refine hK.out _ _ (HSW.out _ hb9) (fun hHeld => ?_)
            clear hK K hHeld hv9 hm9 hb9 hW
            refine wpAnyH_done (by kernel_rfl) ?_ _
            go_wp2_with fail
            go_meet
            exact HFIN.out
          · go_simp
            generalize hW : World.alloc _ _ = w16
            replace HS := Lib.hid (HS.out.box hW)
            clear hW
            generalize w13.heap.size = g at HS ⊢
            refine hK.out _ _ (HSW.out _ HS.out.1) (fun hHeld => ?_)
            clear hK K
            refine wpAnyH_ready (rs := [11]) (by kernel_rfl) (by simp) ?_
            refine AllReadyH.cons rfl (fun K hK => ?_) (AllReadyH.nil)
            go_simp
            generalize hW : World.alloc _ _ = w17
            replace HS := Lib.hid (HS.out.row hW)
            clear hW
            generalize w16.heap.size = h at HS ⊢
            refine hK.out _ _ (HSW.out _ HS.out.1) (fun hHeld => ?_)
            clear hK K
            refine take_at 12 (some 16) rfl rfl (by kernel_rfl) (by kernel_rfl) (by kernel_rfl) (fun _ _ _ h => h) (Or.inl ⟨by rfl, fun w hSw => by (obtain ⟨q0, q1, q2⟩ := hSw; go_simp; with_reducible rfl)⟩) hHeld ?_
            simp only [Act.put, List.setIfInBounds_toArray, List.set_cons_zero, List.set_cons_succ]
            refine wpAnyH_ready (rs := [14]) (by kernel_rfl) (by simp) ?_
            refine AllReadyH.cons rfl (fun K hK => ?_) AllReadyH.nil
            refine step_store (cs := VC.cells ⟨hdK 7, .slice none 0 0, .slice none 0 0, .slice (some ⟨h, 0, none⟩) 2 2⟩) _ rfl _ _ rfl stVk.2 g 0 rfl rfl rfl rfl (by intro u hu; exact HONE7.out h u hu) (HS.out.2.1 g rfl).2.2 (Nat.le_refl 13) rfl ?_
            generalize hW : World.setRow _ _ _ = wz
            have HFIN := Lib.hid (HS.out.map (B0 := B) (by decide) (by decide) (okT _ (nameS_le n)) (okT _ HT.out) rfl rfl hW)
            obtain ⟨g9, F9, hv9, hm9, hb9⟩ := HFIN.out
            refine hK.out _ _ (HSW.out _ hb9) (fun hHeld => ?_)
            clear hK K hHeld hv9 hm9 hb9 hW
            refine wpAnyH_done (by kernel_rfl) ?_ _
            go_wp2_with fail
            go_meet
            exact HFIN.out
        · go_simp
          generalize hW : World.alloc _ _ = w18
          replace HS := Lib.hid (HS.out.box hW)
          clear hW
          generalize w12.heap.size = g at HS ⊢
          refine hK.out _ _ (HSW.out _ HS.out.1) (fun hHeld => ?_)
          clear hK K
          refine wpAnyH_ready (rs := [9]) (by kernel_rfl) (by simp) ?_
          refine AllReadyH.cons rfl (fun K hK => ?_) (AllReadyH.nil)
          go_simp
          refine (RText56_any _ _).mono ?_
          rintro e w19 ⟨rfl, hb⟩
          replace HS := Lib.hid (HS.out.below hb)
          clear hb
          refine hK.out _ _ (HSW.out _ HS.out.1) (fun hHeld => ?_)
          clear hK K
          refine take_at 10 (some 14) rfl rfl (by kernel_rfl) (by kernel_rfl) (by kernel_rfl) (fun _ _ _ h => h) (Or.inl ⟨by rfl, fun w hSw => by (obtain ⟨q0, q1, q2⟩ := hSw; go_simp; with_reducible rfl)⟩) hHeld ?_
          simp only [Act.put, List.setIfInBounds_toArray, List.set_cons_zero, List.set_cons_succ]
          refine wpAnyH_ready (rs := [11]) (by kernel_rfl) (by simp) ?_
          refine AllReadyH.cons rfl (fun K hK => ?_) (AllReadyH.nil)
          go_simp
          generalize hW : World.alloc _ _ = w20
          replace HS := Lib.hid (HS.out.row hW)
          clear hW
          generalize w19.heap.size = h at HS ⊢
          refine hK.out _ _ (HSW.out _ HS.out.1) (fun hHeld => ?_)
          clear hK K
          refine take_at 12 (some 16) rfl rfl (by kernel_rfl) (by kernel_rfl) (by kernel_rfl) (fun _ _ _ h => h) (Or.inl ⟨by rfl, fun w hSw => by (obtain ⟨q0, q1, q2⟩ := hSw; go_simp; with_reducible rfl)⟩) hHeld ?_
          simp only [Act.put, List.setIfInBounds_toArray, List.set_cons_zero, List.set_cons_succ]
          refine wpAnyH_ready (rs := [14]) (by kernel_rfl) (by simp) ?_
          refine AllReadyH.cons rfl (fun K hK => ?_) AllReadyH.nil
          refine step_store (cs := VC.cells ⟨hdK 7, .slice none 0 0, .slice none 0 0, .slice (some ⟨h, 0, none⟩) 2 2⟩) _ rfl _ _ rfl stVk.2 g 0 rfl rfl rfl rfl (by intro u hu; exact HONE7.out h u hu) (HS.out.2.1 g rfl).2.2 (Nat.le_refl 13) rfl ?_
          generalize hW : World.setRow _ _ _ = wz
          have HFIN := Lib.hid (HS.out.map (B0 := B) (by decide) (by decide) (okT _ (nameS_le n)) (okT _ HT.out) rfl rfl hW)
          obtain ⟨g9, F9, hv9, hm9, hb9⟩ := HFIN.out
          refine hK.out _ _ (HSW.out _ hb9) (fun hHeld => ?_)
          clear hK K hHeld hv9 hm9 hb9 hW
          refine wpAnyH_done (by kernel_rfl) ?_ _
          go_wp2_with fail
          go_meet
          exact HFIN.out
      · go_simp
        generalize hW : World.alloc _ _ = w21
        replace HS := Lib.hid (HS.out.box hW)
        clear hW
        generalize w11.heap.size = g at HS ⊢
        refine hK.out _ _ (HSW.out _ HS.out.1) (fun hHeld => ?_)
        clear hK K
        refine wpAnyH_ready (rs := [8]) (by kernel_rfl) (by simp) ?_
        refine AllReadyH.cons rfl (fun K hK => ?_) (AllReadyH.nil)
        go_simp
        refine (RText_any p xp _ (HRDP.out _ HS.out.1) HV.out).mono ?_
        rintro e w22 ⟨rfl, hb⟩
        replace HS := Lib.hid (HS.out.below hb)
        clear hb
        refine hK.out _ _ (HSW.out _ HS.out.1) (fun hHeld => ?_)
        clear hK K
        refine wpAnyH_ready (rs := [9]) (by kernel_rfl) (by simp) ?_
        refine AllReadyH.cons rfl (fun K hK => ?_) (AllReadyH.nil)
        go_simp
        refine (RText56_any _ _).mono ?_
        rintro e w23 ⟨rfl, hb⟩
        replace HS := Lib.hid (HS.out.below hb)
        clear hb
        refine hK.out _ _ (HSW.out _ HS.out.1) (fun hHeld => ?_)
        clear hK K
        refine take_at 10 (some 14) rfl rfl (by kernel_rfl) (by kernel_rfl) (by kernel_rfl) (fun _ _ _ h => h) (Or.inl ⟨by rfl, fun w hSw => by (obtain ⟨q0, q1, q2⟩ := hSw; go_simp; with_reducible rfl)⟩) hHeld ?_
        simp only [Act.put, List.setIfInBounds_toArray, List.set_cons_zero, List.set_cons_succ]
        refine wpAnyH_ready (rs := [11]) (by kernel_rfl) (by simp) ?_
        refine AllReadyH.cons rfl (fun K hK => ?_) (AllReadyH.nil)
        go_simp
        generalize hW : World.alloc _ _ = w24
        replace HS := Lib.hid (HS.out.row hW)
        clear hW
        generalize w23.heap.size = h at HS ⊢
        refine hK.out _ _ (HSW.out _ HS.out.1) (fun hHeld => ?_)
        clear hK K
        refine take_at 12 (some 16) rfl rfl (by kernel_rfl) (by kernel_rfl) (by kernel_rfl) (fun _ _ _ h => h) (Or.inl ⟨by rfl, fun w hSw => by (obtain ⟨q0, q1, q2⟩ := hSw; go_simp; with_reducible rfl)⟩) hHeld ?_
        simp only [Act.put, List.setIfInBounds_toArray, List.set_cons_zero, List.set_cons_succ]
        refine wpAnyH_ready (rs := [14]) (by kernel_rfl) (by simp) ?_
        refine AllReadyH.cons rfl (fun K hK => ?_) AllReadyH.nil
        refine step_store (cs := VC.cells ⟨hdK 7, .slice none 0 0, .slice none 0 0, .slice (some ⟨h, 0, none⟩) 2 2⟩) _ rfl _ _ rfl stVk.2 g 0 rfl rfl rfl rfl (by intro u hu; exact HONE7.out h u hu) (HS.out.2.1 g rfl).2.2 (Nat.le_refl 13) rfl ?_
        generalize hW : World.setRow _ _ _ = wz
        have HFIN := Lib.hid (HS.out.map (B0 := B) (by decide) (by decide) (okT _ (nameS_le n)) (okT _ HT.out) rfl rfl hW)
        obtain ⟨g9, F9, hv9, hm9, hb9⟩ := HFIN.out
        refine hK.out _ _ (HSW.out _ hb9) (fun hHeld => ?_)
        clear hK K hHeld hv9 hm9 hb9 hW
        refine wpAnyH_done (by kernel_rfl) ?_ _
        go_wp2_with fail
        go_meet
        exact HFIN.out
    · go_simp
      generalize hW : World.alloc _ _ = w25
      replace HS := Lib.hid (HS.out.box hW)
      clear hW
      generalize wd.heap.size = g at HS ⊢
      refine hK.out _ _ (HSW.out _ HS.out.1) (fun hHeld => ?_)
      clear hK K
      refine wpAnyH_ready (rs := [4]) (by kernel_rfl) (by simp) ?_
      refine AllReadyH.cons rfl (fun K hK => ?_) (AllReadyH.nil)
      go_simp
      refine (RText56_any _ _).mono ?_
      rintro e w26 ⟨rfl, hb⟩
      replace HS := Lib.hid (HS.out.below hb)
      clear hb
      refine hK.out _ _ (HSW.out _ HS.out.1) (fun hHeld => ?_)
      clear hK K
      refine take_at 5 (some 9) rfl rfl (by kernel_rfl) (by kernel_rfl) (by kernel_rfl) (fun _ _ _ h => h) (Or.inl ⟨by rfl, fun w hSw => by (obtain ⟨q0, q1, q2⟩ := hSw; go_simp; with_reducible rfl)⟩) hHeld ?_
      simp only [Act.put, List.setIfInBounds_toArray, List.set_cons_zero, List.set_cons_succ]
      refine wpAnyH_ready (rs := [8]) (by kernel_rfl) (by simp) ?_
      refine AllReadyH.cons rfl (fun K hK => ?_) (AllReadyH.nil)
      go_simp
      refine (RText_any p xp _ (HRDP.out _ HS.out.1) HV.out).mono ?_
      rintro e w27 ⟨rfl, hb⟩
      replace HS := Lib.hid (HS.out.below hb)
      clear hb
      refine hK.out _ _ (HSW.out _ HS.out.1) (fun hHeld => ?_)
      clear hK K
      refine wpAnyH_ready (rs := [9]) (by kernel_rfl) (by simp) ?_
      refine AllReadyH.cons rfl (fun K hK => ?_) (AllReadyH.nil)
      go_simp
      refine (RText56_any _ _).mono ?_
      rintro e w28 ⟨rfl, hb⟩
      replace HS := Lib.hid (HS.out.below hb)
      clear hb
      refine hK.out _ _ (HSW.out _ HS.out.1) (fun hHeld => ?_)
      clear hK K
      refine take_at 10 (some 14) rfl rfl (by kernel_rfl) (by kernel_rfl) (by kernel_rfl) (fun _ _ _ h => h) (Or.inl ⟨by rfl, fun w hSw => by (obtain ⟨q0, q1, q2⟩ := hSw; go_simp; with_reducible rfl)⟩) hHeld ?_
      simp only [Act.put, List.setIfInBounds_toArray, List.set_cons_zero, List.set_cons_succ]
      refine wpAnyH_ready (rs := [11]) (by kernel_rfl) (by simp) ?_
      refine AllReadyH.cons rfl (fun K hK => ?_) (AllReadyH.nil)
      go_simp
      generalize hW : World.alloc _ _ = w29
      replace HS := Lib.hid (HS.out.row hW)
      clear hW
      generalize w28.heap.size = h at HS ⊢
      refine hK.out _ _ (HSW.out _ HS.out.1) (fun hHeld => ?_)
      clear hK K
      refine take_at 12 (some 16) rfl rfl (by kernel_rfl) (by kernel_rfl) (by kernel_rfl) (fun _ _ _ h => h) (Or.inl ⟨by rfl, fun w hSw => by (obtain ⟨q0, q1, q2⟩ := hSw; go_simp; with_reducible rfl)⟩) hHeld ?_
      simp only [Act.put, List.setIfInBounds_toArray, List.set_cons_zero, List.set_cons_succ]
      refine wpAnyH_ready (rs := [14]) (by kernel_rfl) (by simp) ?_
      refine AllReadyH.cons rfl (fun K hK => ?_) AllReadyH.nil
      refine step_store (cs := VC.cells ⟨hdK 7, .slice none 0 0, .slice none 0 0, .slice (some ⟨h, 0, none⟩) 2 2⟩) _ rfl _ _ rfl stVk.2 g 0 rfl rfl rfl rfl (by intro u hu; exact HONE7.out h u hu) (HS.out.2.1 g rfl).2.2 (Nat.le_refl 13) rfl ?_
      generalize hW : World.setRow _ _ _ = wz
      have HFIN := Lib.hid (HS.out.map (B0 := B) (by decide) (by decide) (okT _ (nameS_le n)) (okT _ HT.out) rfl rfl hW)
      obtain ⟨g9, F9, hv9, hm9, hb9⟩ := HFIN.out
      refine hK.out _ _ (HSW.out _ hb9) (fun hHeld => ?_)
      clear hK K hHeld hv9 hm9 hb9 hW
      refine wpAnyH_done (by kernel_rfl) ?_ _
      go_wp2_with fail
      go_meet
      exact HFIN.out
  case rest =>
  obtain ⟨g, F, rfl, hm, hb⟩ := hcut
  have HS : Hid (MS wm wc g B (wr2 ⟨n, xp, np, xo, xn⟩)) := ⟨F, hm, hb⟩
  have HCELL : Hid (∀ w', Below wm.heap.size wm w' → _) := fun w' hb => rowC5 ((hb.block w.heap.size (by rw [HZM.out]; omega)).trans HCX.out)
  have HBZ : Hid (B ≤ wm.heap.size) := by unfold Hid; rw [HZM.out]; omega
  clear hm hb HSW HT HONE7
  have HW3 : Hid (wr3 ⟨n, xp, np, xo, xn⟩ = wr2 ⟨n, xp, np, xo, xn⟩ ++ if (movB n && lastK xp) = true then [(kAt, vI np)] else []) := rfl
  have HW4 : Hid (wr4 ⟨n, xp, np, xo, xn⟩ = wr3 ⟨n, xp, np, xo, xn⟩ ++ if oldB n = true then [(kOld, xo)] else []) := rfl
  have HW5 : Hid (wr5 ⟨n, xp, np, xo, xn⟩ = wr4 ⟨n, xp, np, xo, xn⟩ ++ if newB n = true then [(kNew, xn)] else []) := rfl
  have HLEN := Lib.hid (wr5_len ⟨n, xp, np, xo, xn⟩)
  have HL2 : Hid ((wr2 ⟨n, xp, np, xo, xn⟩).length < 1000) := Nat.lt_of_le_of_lt (Nat.le_refl 2) (by decide)
  have HWV : Hid (wrV ⟨n, xp, np, xo, xn⟩ = .mk (hdK 7) [] (wr5 ⟨n, xp, np, xo, xn⟩)) := rfl
  generalize wr5 ⟨n, xp, np, xo, xn⟩ = l5 at *
  generalize wr4 ⟨n, xp, np, xo, xn⟩ = l4 at *
  generalize wr3 ⟨n, xp, np, xo, xn⟩ = l3 at *
  generalize wr2 ⟨n, xp, np, xo, xn⟩ = l2 at *
  have HOLD : Hid (oldB n = !((n : Int) == 2)) := by unfold Hid oldB; rw [Bool.eq_iff_iff]; simp; omega
  have HNEW : Hid (newB n = ((n : Int) == 1 || (n : Int) == 2)) := by unfold Hid newB; rw [Bool.eq_iff_iff]; simp
  have HMV : Hid (movB n = decide ((n : Int) = 2 ∨ (n : Int) = 3)) := rfl
  have HBK := Lib.hid (fun w' (hb : Below wm.heap.size wm w') => byKey_any p xp w' (HRDP.out w' hb))
  generalize lastK xp = lk at *
  go_upto_region 2 with fail
  go_cut [23] (fun v wx => v = .bool (movB n && lk) ∧ MS wm wx g B l2)
  case first =>
    obtain ⟨-, -, -, y29, -, -⟩ := HCELL.out wc HS.out.b
    have Y29 := Lib.hid y29
    clear y29
    go_wp2_with (refine wpl_load rfl rfl stC rfl (ccells_len _) Y29.out ?_)
    refine (moves_any ⟨n, p, np, o1, n1⟩ _ (movB n) HMV.out).mono ?_
    rintro e w2 ⟨rfl, hb2⟩
    have HS2 := Lib.hid (HS.out.below hb2)
    clear hb2 HS Y29
    obtain ⟨-, y1, -⟩ := HCELL.out w2 HS2.out.b
    generalize movB n = mb at *
    cases mb with
    | false =>
      go_wp2_with fail
      go_meet
      exact ⟨rfl, HS2.out⟩
    | true =>
      go_wp2_with fail
      refine (HBK.out _ HS2.out.b).mono ?_
      rintro e w3 ⟨rfl, hb3⟩
      have HS3 := Lib.hid (HS2.out.below hb3)
      clear hb3 HS2 y1
      go_wp2_with fail
      go_meet
      exact ⟨rfl, HS3.out⟩
  case rest =>
  obtain ⟨rfl, hs⟩ := hcut
  clear HS
  have HS := Lib.hid hs
  clear hs
  generalize (movB n && lk) = kb at *
  go_upto_if 23 with fail
  go_cut [] (fun wx => MS wm wx g B l3)
  case first =>
    cases kb with
    | false =>
      have HF : Hid (MS wm wc g B l3) := by unfold Hid; rw [HW3.out]; simpa using HS.out
      go_wp2_with fail
      go_meet
      exact HF.out
    | true =>
      replace HW3 : Hid (l3 = l2 ++ [(kAt, vI np)]) := HW3.out
      obtain ⟨F, hm, hb⟩ := HS.out
      obtain ⟨cs0, -, hown0, -⟩ := hm.2.1
      obtain ⟨va, vcap, rfl⟩ := own_form hown0
      clear hown0
      have HM := Lib.hid hm
      have HBW := Lib.hid hb
      have HSX : Hid (∀ w', Below wm.heap.size wm w' → w'.cell? ⟨w.heap.size, 2, none⟩ = some (.int .i64 np)) := fun w' hb => (HCELL.out w' hb).2.2.1
      have HKEY : Hid (∀ u ∈ fcells (kAt, ⟨hdN (intR np).neg ⟨(intR np).ds.toArray⟩ (intR np).e, .slice none 0 0, .slice none 0 0, .slice none 0 0⟩), u.oneCell' = true) := by
        intro u hu
        rcases List.mem_cons.1 hu with rfl | hu
        · rfl
        · exact vc_one (leaf_rd (hdN (intR np).neg ⟨(intR np).ds.toArray⟩ (intR np).e) (okI np) rfl w (fun _ => True)) u hu
      have HLL : Hid (l2.length < 100000000000) := by unfold Hid; have := HL2.out; omega
      clear hm hb HS
      go_wp2_with fail
      refine wp_region_held_drew (S := fun w' => w'.cell? ⟨w.heap.size, 2, none⟩ = some (.int .i64 np)) (by kernel_rfl) (HSX.out _ (HBW.out.trans ((drewB wc).mono HBW.out.size))) (fun hHeld => ?_)
      replace HM := Lib.hid (HM.out.below (drewB wc))
      replace HBW := Lib.hid (HBW.out.trans ((drewB wc).mono HBW.out.size))
      generalize wc.drew = wd at *
      refine take_at 0 (some 24) rfl rfl (by kernel_rfl) (by kernel_rfl) (by kernel_rfl) (fun _ _ _ h => h) (Or.inl ⟨by rfl, fun w hSw => by (go_simp; with_reducible rfl)⟩) hHeld ?_
      simp only [Act.put, List.setIfInBounds_toArray, List.set_cons_zero, List.set_cons_succ]
      refine take_at 2 (some 26) rfl rfl (by kernel_rfl) (by kernel_rfl) (by kernel_rfl) (fun _ _ _ h => h) (Or.inl ⟨by rfl, fun w hSw => by (go_simp; with_reducible rfl)⟩) hHeld ?_
      simp only [Act.put, List.setIfInBounds_toArray, List.set_cons_zero, List.set_cons_succ]
      refine take_at 3 (some 27) rfl rfl (by kernel_rfl) (by kernel_rfl) (by kernel_rfl) (fun _ _ _ h => h) (Or.inl ⟨by rfl, fun w hSw => by (go_simp; with_reducible rfl)⟩) hHeld ?_
      simp only [Act.put, List.setIfInBounds_toArray, List.set_cons_zero, List.set_cons_succ]
      refine wpAnyH_ready (rs := [1, 4]) (by kernel_rfl) (by simp) ?_
      refine AllReadyH.cons rfl (fun K hK => ?_) (AllReadyH.cons rfl (fun K hK => ?_) (AllReadyH.nil))
      · obtain ⟨⟨-, -, -, -, -, -, -, -, -, -, -, -, x12⟩, -⟩ := box13 HM.out.1
        go_simp
        refine hK.out _ _ (HSX.out _ HBW.out) (fun hHeld => ?_)
        clear hK K x12
        refine wpAnyH_ready (rs := [4]) (by kernel_rfl) (by simp) ?_
        refine AllReadyH.cons rfl (fun K hK => ?_) (AllReadyH.nil)
        go_simp
        refine (RInt7_any np _ (by omega) (intR np) rfl).mono ?_
        rintro e x2 ⟨rfl, hb⟩
        replace HM := Lib.hid (HM.out.below hb)
        replace HBW := Lib.hid (HBW.out.trans (hb.mono HBW.out.size))
        clear hb
        obtain ⟨cs, hcl, hown, hrds⟩ := HM.out.2.1
        have HCL := Lib.hid hcl
        have HOWN := Lib.hid hown
        have HRS := Lib.hid hrds
        have HXV : Hid (RdI x2 (fun b => b < B) _ _) := leaf_rd (hdN (intR np).neg ⟨(intR np).ds.toArray⟩ (intR np).e) (okI np) rfl x2 _
        clear hcl hown hrds
        refine hK.out _ _ (HSX.out _ HBW.out) (fun hHeld => ?_)
        clear hK K
        refine take_at 5 (some 29) rfl rfl (by kernel_rfl) (by kernel_rfl) (by kernel_rfl) (fun _ _ _ h => h) (Or.inl ⟨by rfl, fun w hSw => by (go_simp; with_reducible rfl)⟩) hHeld ?_
        simp only [Act.put, List.setIfInBounds_toArray, List.set_cons_zero, List.set_cons_succ]
        refine wpAnyH_ready (rs := [6]) (by kernel_rfl) (by simp) ?_
        refine AllReadyH.cons rfl (fun K hK => ?_) (AllReadyH.nil)
        go_simp
        refine hK.out _ _ (HSX.out _ (HBW.out.trans (((Below.refl _ _).alloc (Nat.le_refl _) _).mono HBW.out.size))) (fun hHeld => ?_)
        clear hK K
        refine wpAnyH_ready (rs := [7]) (by kernel_rfl) (by simp) ?_
        refine AllReadyH.cons rfl (fun K hK => ?_) AllReadyH.nil
        refine step_push2 elemF (by rfl) _ _ (by rfl) HOWN.out (fcells (kAt, ⟨hdN (intR np).neg ⟨(intR np).ds.toArray⟩ (intR np).e, .slice none 0 0, .slice none 0 0, .slice none 0 0⟩)) (by rfl) HKEY.out (by rfl) (by rfl) HLL.out HBW.out.size ?_
        intro v5 w5 hown5 hg5 hb5 hf5 hq5
        clear hq5
        obtain ⟨va5, vcap5, rfl⟩ := own_form hown5
        have hgo5 := (hg5.block g HM.out.lt (Ne.symm HM.out.2.2.1)).trans HM.out.1
        refine hK.out _ _ (HSX.out _ (HBW.out.trans hb5)) (fun hHeld => ?_)
        clear hK K
        refine take_at 8 (some 32) rfl rfl (by kernel_rfl) (by kernel_rfl) (by kernel_rfl) (fun _ _ _ h => h) (Or.inl ⟨by rfl, fun w hSw => by (go_simp; with_reducible rfl)⟩) hHeld ?_
        simp only [Act.put, List.setIfInBounds_toArray]
        refine wpAnyH_ready (rs := [9]) (by kernel_rfl) (by simp) ?_
        refine AllReadyH.cons rfl (fun K hK => ?_) AllReadyH.nil
        refine step_store (cs := [.slice va5 (l2.length + 1) vcap5]) _ rfl _ _ rfl st28 g 12 rfl rfl rfl rfl (by intro u hu; rw [List.mem_singleton.1 hu]; rfl) hgo5 (Nat.le_refl 13) rfl ?_
        generalize hW6 : World.setRow _ _ _ = w6
        have HF : Hid (MS wm w6 g B l3) := by unfold Hid; rw [HW3.out]; exact MS.push HBZ.out HM.out HBW.out HCL.out HRS.out (by decide) HXV.out hown5 hg5 hb5 hf5 hW6
        refine hK.out _ _ (HSX.out _ HF.out.b) (fun hHeld => ?_)
        clear hK K hHeld hown5 hg5 hb5 hf5 hW6 hgo5
        refine wpAnyH_done (by kernel_rfl) ?_ _
        go_wp2_with fail
        go_meet
        exact HF.out
      · go_simp
        refine (RInt7_any np _ (by omega) (intR np) rfl).mono ?_
        rintro e x4 ⟨rfl, hb⟩
        replace HM := Lib.hid (HM.out.below hb)
        replace HBW := Lib.hid (HBW.out.trans (hb.mono HBW.out.size))
        clear hb
        obtain ⟨cs, hcl, hown, hrds⟩ := HM.out.2.1
        have HCL := Lib.hid hcl
        have HOWN := Lib.hid hown
        have HRS := Lib.hid hrds
        have HXV : Hid (RdI x4 (fun b => b < B) _ _) := leaf_rd (hdN (intR np).neg ⟨(intR np).ds.toArray⟩ (intR np).e) (okI np) rfl x4 _
        clear hcl hown hrds
        refine hK.out _ _ (HSX.out _ HBW.out) (fun hHeld => ?_)
        clear hK K
        refine take_at 5 (some 29) rfl rfl (by kernel_rfl) (by kernel_rfl) (by kernel_rfl) (fun _ _ _ h => h) (Or.inl ⟨by rfl, fun w hSw => by (go_simp; with_reducible rfl)⟩) hHeld ?_
        simp only [Act.put, List.setIfInBounds_toArray, List.set_cons_zero, List.set_cons_succ]
        refine wpAnyH_ready (rs := [1, 6]) (by kernel_rfl) (by simp) ?_
        refine AllReadyH.cons rfl (fun K hK => ?_) (AllReadyH.cons rfl (fun K hK => ?_) (AllReadyH.nil))
        · obtain ⟨⟨-, -, -, -, -, -, -, -, -, -, -, -, x12⟩, -⟩ := box13 HM.out.1
          go_simp
          refine hK.out _ _ (HSX.out _ HBW.out) (fun hHeld => ?_)
          clear hK K x12
          refine wpAnyH_ready (rs := [6]) (by kernel_rfl) (by simp) ?_
          refine AllReadyH.cons rfl (fun K hK => ?_) (AllReadyH.nil)
          go_simp
          refine hK.out _ _ (HSX.out _ (HBW.out.trans (((Below.refl _ _).alloc (Nat.le_refl _) _).mono HBW.out.size))) (fun hHeld => ?_)
          clear hK K
          refine wpAnyH_ready (rs := [7]) (by kernel_rfl) (by simp) ?_
          refine AllReadyH.cons rfl (fun K hK => ?_) AllReadyH.nil
          refine step_push2 elemF (by rfl) _ _ (by rfl) HOWN.out (fcells (kAt, ⟨hdN (intR np).neg ⟨(intR np).ds.toArray⟩ (intR np).e, .slice none 0 0, .slice none 0 0, .slice none 0 0⟩)) (by rfl) HKEY.out (by rfl) (by rfl) HLL.out HBW.out.size ?_
          intro v5 w5 hown5 hg5 hb5 hf5 hq5
          clear hq5
          obtain ⟨va5, vcap5, rfl⟩ := own_form hown5
          have hgo5 := (hg5.block g HM.out.lt (Ne.symm HM.out.2.2.1)).trans HM.out.1
          refine hK.out _ _ (HSX.out _ (HBW.out.trans hb5)) (fun hHeld => ?_)
          clear hK K
          refine take_at 8 (some 32) rfl rfl (by kernel_rfl) (by kernel_rfl) (by kernel_rfl) (fun _ _ _ h => h) (Or.inl ⟨by rfl, fun w hSw => by (go_simp; with_reducible rfl)⟩) hHeld ?_
          simp only [Act.put, List.setIfInBounds_toArray]
          refine wpAnyH_ready (rs := [9]) (by kernel_rfl) (by simp) ?_
          refine AllReadyH.cons rfl (fun K hK => ?_) AllReadyH.nil
          refine step_store (cs := [.slice va5 (l2.length + 1) vcap5]) _ rfl _ _ rfl st28 g 12 rfl rfl rfl rfl (by intro u hu; rw [List.mem_singleton.1 hu]; rfl) hgo5 (Nat.le_refl 13) rfl ?_
          generalize hW6 : World.setRow _ _ _ = w6
          have HF : Hid (MS wm w6 g B l3) := by unfold Hid; rw [HW3.out]; exact MS.push HBZ.out HM.out HBW.out HCL.out HRS.out (by decide) HXV.out hown5 hg5 hb5 hf5 hW6
          refine hK.out _ _ (HSX.out _ HF.out.b) (fun hHeld => ?_)
          clear hK K hHeld hown5 hg5 hb5 hf5 hW6 hgo5
          refine wpAnyH_done (by kernel_rfl) ?_ _
          go_wp2_with fail
          go_meet
          exact HF.out
        · go_simp
          refine hK.out _ _ (HSX.out _ (HBW.out.trans (((Below.refl _ _).alloc (Nat.le_refl _) _).mono HBW.out.size))) (fun hHeld => ?_)
          clear hK K
          refine wpAnyH_ready (rs := [1]) (by kernel_rfl) (by simp) ?_
          refine AllReadyH.cons rfl (fun K hK => ?_) (AllReadyH.nil)
          obtain ⟨⟨-, -, -, -, -, -, -, -, -, -, -, -, x12⟩, -⟩ := box13 HM.out.1
          have hgl := HM.out.lt
          go_simp
          refine hK.out _ _ (HSX.out _ (HBW.out.trans (((Below.refl _ _).alloc (Nat.le_refl _) _).mono HBW.out.size))) (fun hHeld => ?_)
          clear hK K x12 hgl
          refine wpAnyH_ready (rs := [7]) (by kernel_rfl) (by simp) ?_
          refine AllReadyH.cons rfl (fun K hK => ?_) AllReadyH.nil
          refine step_push2 elemF (by rfl) _ _ (by rfl) HOWN.out (fcells (kAt, ⟨hdN (intR np).neg ⟨(intR np).ds.toArray⟩ (intR np).e, .slice none 0 0, .slice none 0 0, .slice none 0 0⟩)) (by rfl) HKEY.out (by rfl) (by rfl) HLL.out HBW.out.size ?_
          intro v5 w5 hown5 hg5 hb5 hf5 hq5
          clear hq5
          obtain ⟨va5, vcap5, rfl⟩ := own_form hown5
          have hgo5 := (hg5.block g HM.out.lt (Ne.symm HM.out.2.2.1)).trans HM.out.1
          refine hK.out _ _ (HSX.out _ (HBW.out.trans hb5)) (fun hHeld => ?_)
          clear hK K
          refine take_at 8 (some 32) rfl rfl (by kernel_rfl) (by kernel_rfl) (by kernel_rfl) (fun _ _ _ h => h) (Or.inl ⟨by rfl, fun w hSw => by (go_simp; with_reducible rfl)⟩) hHeld ?_
          simp only [Act.put, List.setIfInBounds_toArray]
          refine wpAnyH_ready (rs := [9]) (by kernel_rfl) (by simp) ?_
          refine AllReadyH.cons rfl (fun K hK => ?_) AllReadyH.nil
          refine step_store (cs := [.slice va5 (l2.length + 1) vcap5]) _ rfl _ _ rfl st28 g 12 rfl rfl rfl rfl (by intro u hu; rw [List.mem_singleton.1 hu]; rfl) hgo5 (Nat.le_refl 13) rfl ?_
          generalize hW6 : World.setRow _ _ _ = w6
          have HF : Hid (MS wm w6 g B l3) := by unfold Hid; rw [HW3.out]; exact MS.push HBZ.out HM.out HBW.out HCL.out HRS.out (by decide) HXV.out hown5 hg5 hb5 hf5 hW6
          refine hK.out _ _ (HSX.out _ HF.out.b) (fun hHeld => ?_)
          clear hK K hHeld hown5 hg5 hb5 hf5 hW6 hgo5
          refine wpAnyH_done (by kernel_rfl) ?_ _
          go_wp2_with fail
          go_meet
          exact HF.out
  case rest =>
  clear HS
  have HS := Lib.hid hcut
  clear hcut
  obtain ⟨y0, -⟩ := HCELL.out wc HS.out.b
  obtain ⟨ob, hob⟩ : ∃ ob, ob = oldB n := ⟨_, rfl⟩
  have hq : ((n : Int) != 2) = ob := by rw [hob, HOLD.out]; rfl
  rw [← hob] at HW4
  clear hob HOLD
  go_upto_if 35 with fail
  clear y0 hq
  go_cut [] (fun wx => MS wm wx g B l4)
  case first =>
    cases ob with
    | false =>
      have HF : Hid (MS wm wc g B l4) := by unfold Hid; rw [HW4.out]; simpa using HS.out
      go_wp2_with fail
      go_meet
      exact HF.out
    | true =>
      replace HW4 : Hid (l4 = l3 ++ [(kOld, xo)]) := HW4.out
      obtain ⟨F, hm, hb⟩ := HS.out
      obtain ⟨cs, hcl, hown, hrds⟩ := hm.2.1
      obtain ⟨va, vcap, rfl⟩ := own_form hown
      obtain ⟨⟨-, -, -, -, -, -, -, -, -, -, -, -, x12⟩, -⟩ := box13 hm.1
      have HY : Hid (∀ j, j < 13 → wc.cell? ⟨w.heap.size, 3 + j, none⟩ = (o1).cells[j]?) := (HCELL.out wc hb).2.2.2.2.1
      have hxv := ((HRD.out.stays HBM.out).stays hb).o
      have HXV := Lib.hid hxv
      have HONEv := Lib.hid (vc_one hxv.any)
      have HM := Lib.hid hm
      have HB := Lib.hid hb
      have HCL := Lib.hid hcl
      have HOWN := Lib.hid hown
      have HRS := Lib.hid hrds
      have HKEY : Hid (∀ u ∈ fcells (kOld, o1), u.oneCell' = true) := by
        intro u hu
        rcases List.mem_cons.1 hu with rfl | hu
        · rfl
        · exact HONEv.out u hu
      have HGX : Hid (wc.heap[g]? = some (.cells (VC.cells ⟨hdK 7, .slice none 0 0, .slice none 0 0, .slice va l3.length vcap⟩).toArray 30 (0, 0))) := hm.1
      have HLL : Hid (l3.length < 100000000000) := by unfold Hid; have := HLEN.out; omega
      have HBS : Hid (wm.heap.size ≤ wc.heap.size) := hb.size
      have HNE : Hid (some g ≠ (Value.slice va l3.length vcap).ownBlock) := Ne.symm hm.2.2.1
      have HGL : Hid (g < wc.heap.size) := hm.lt
      clear hm hb hcl hown hrds hxv HS
      clear HRD HCX HCELL HONEc HONEv
      obtain ⟨⟨p0, p1, p2, p3, p4, p5, p6, p7, p8, p9, p10⟩, q1, q2, q3⟩ := o1
      go_wp2_with (first
        | refine wpl_load rfl rfl stVk rfl (cs := [.int .i64 p0, .bool p1, .bool p2, .string p3, .int .i64 p4, .int .i64 p5, .int .i64 p6, .int .i64 p7, .int .i64 p8, .string p9, q1, q2, q3]) rfl HY.out ?_
        | refine wpl_slice rfl rfl elemF rfl (cs := fcells (kOld, ⟨⟨p0, p1, p2, p3, p4, p5, p6, p7, p8, p9, p10⟩, q1, q2, q3⟩)) rfl rfl (by decide) ?_
        | (at_builtin; refine wp_push2 elemF rfl _ _ rfl HOWN.out (fcells (kOld, ⟨⟨p0, p1, p2, p3, p4, p5, p6, p7, p8, p9, p10⟩, q1, q2, q3⟩)) rfl HKEY.out rfl rfl HLL.out HBS.out ?_; intro v' w5 hown5 hg5 hb5 hf5; obtain ⟨va5, vcap5, rfl⟩ := own_form hown5; have HGO5 := Lib.hid ((hg5.block g HGL.out HNE.out).trans HGX.out); have HOWN5 := Lib.hid hown5; have HG5 := Lib.hid hg5; have HB5 := Lib.hid hb5; have HF5 := Lib.hid hf5; clear hown5 hg5 hb5 hf5)
        | (refine wpl_store rfl rfl st28 rfl rfl rfl rfl (by intro u hu; rw [List.mem_singleton.1 hu]; rfl) HGO5.out (Nat.le_refl 13) (row := VC.cells ⟨hdK 7, .slice none 0 0, .slice none 0 0, .slice va5 (l3.length + 1) vcap5⟩) rfl ?_; generalize hW6 : World.setRow _ _ _ = w6; have HF : Hid (MS wm w6 g B l4) := (by unfold Hid; rw [HW4.out]; exact MS.push HBZ.out HM.out HB.out HCL.out HRS.out (by decide) HXV.out HOWN5.out HG5.out HB5.out HF5.out hW6); clear hW6))
      go_meet
      exact HF.out
  case rest =>
  clear HS
  have HS := Lib.hid hcut
  clear hcut
  obtain ⟨nb, hnb⟩ : ∃ nb, nb = newB n := ⟨_, rfl⟩
  rw [← hnb] at HW5
  rw [← hnb] at HNEW
  clear hnb
  obtain ⟨wc', rfl⟩ : ∃ w' : World, w' = wc := ⟨_, rfl⟩
  go_upto_region 6 with fail
  go_cut [51] (fun v wx => v = .bool nb ∧ MS wm wx g B l4)
  case first =>
    obtain ⟨y0, -⟩ := HCELL.out wc' HS.out.b
    by_cases hn1 : (n : Int) = 1
    case pos =>
      have HF : Hid (nb = true) := by unfold Hid; rw [HNEW.out, hn1]; rfl
      have hq1 : ((n : Int) == 1) = true := by rw [hn1]; rfl
      clear hn1 HNEW
      go_wp2_with fail
      go_meet
      exact ⟨by rw [HF.out], HS.out⟩
    case neg =>
      have hq1 : ((n : Int) == 1) = false := by rw [beq_eq_false_iff_ne]; exact hn1
      have HF : Hid (nb = ((n : Int) == 2)) := by unfold Hid; rw [HNEW.out, hq1]; rfl
      clear hn1 HNEW
      go_wp2_with fail
      go_meet
      exact ⟨by rw [HF.out], HS.out⟩
  case rest =>
  obtain ⟨rfl, hs⟩ := hcut
  clear HS
  have HS := Lib.hid hs
  clear hs
  go_upto_if 51 with fail
  go_cut [] (fun wx => MS wm wx g B l5)
  case first =>
    cases nb with
    | false =>
      have HF : Hid (MS wm wc g B l5) := by unfold Hid; rw [HW5.out]; simpa using HS.out
      go_wp2_with fail
      go_meet
      exact HF.out
    | true =>
      replace HW5 : Hid (l5 = l4 ++ [(kNew, xn)]) := HW5.out
      obtain ⟨F, hm, hb⟩ := HS.out
      obtain ⟨cs, hcl, hown, hrds⟩ := hm.2.1
      obtain ⟨va, vcap, rfl⟩ := own_form hown
      obtain ⟨⟨-, -, -, -, -, -, -, -, -, -, -, -, x12⟩, -⟩ := box13 hm.1
      have HY : Hid (∀ j, j < 13 → wc.cell? ⟨w.heap.size, 16 + j, none⟩ = (n1).cells[j]?) := (HCELL.out wc hb).2.2.2.2.2
      have hxv := ((HRD.out.stays HBM.out).stays hb).n
      have HXV := Lib.hid hxv
      have HONEv := Lib.hid (vc_one hxv.any)
      have HM := Lib.hid hm
      have HB := Lib.hid hb
      have HCL := Lib.hid hcl
      have HOWN := Lib.hid hown
      have HRS := Lib.hid hrds
      have HKEY : Hid (∀ u ∈ fcells (kNew, n1), u.oneCell' = true) := by
        intro u hu
        rcases List.mem_cons.1 hu with rfl | hu
        · rfl
        · exact HONEv.out u hu
      have HGX : Hid (wc.heap[g]? = some (.cells (VC.cells ⟨hdK 7, .slice none 0 0, .slice none 0 0, .slice va l4.length vcap⟩).toArray 30 (0, 0))) := hm.1
      have HLL : Hid (l4.length < 100000000000) := by unfold Hid; have := HLEN.out; omega
      have HBS : Hid (wm.heap.size ≤ wc.heap.size) := hb.size
      have HNE : Hid (some g ≠ (Value.slice va l4.length vcap).ownBlock) := Ne.symm hm.2.2.1
      have HGL : Hid (g < wc.heap.size) := hm.lt
      clear hm hb hcl hown hrds hxv HS
      clear HRD HCX HCELL HONEc HONEv
      obtain ⟨⟨p0, p1, p2, p3, p4, p5, p6, p7, p8, p9, p10⟩, q1, q2, q3⟩ := n1
      go_wp2_with (first
        | refine wpl_load rfl rfl stVk rfl (cs := [.int .i64 p0, .bool p1, .bool p2, .string p3, .int .i64 p4, .int .i64 p5, .int .i64 p6, .int .i64 p7, .int .i64 p8, .string p9, q1, q2, q3]) rfl HY.out ?_
        | refine wpl_slice rfl rfl elemF rfl (cs := fcells (kNew, ⟨⟨p0, p1, p2, p3, p4, p5, p6, p7, p8, p9, p10⟩, q1, q2, q3⟩)) rfl rfl (by decide) ?_
        | (at_builtin; refine wp_push2 elemF rfl _ _ rfl HOWN.out (fcells (kNew, ⟨⟨p0, p1, p2, p3, p4, p5, p6, p7, p8, p9, p10⟩, q1, q2, q3⟩)) rfl HKEY.out rfl rfl HLL.out HBS.out ?_; intro v' w5 hown5 hg5 hb5 hf5; obtain ⟨va5, vcap5, rfl⟩ := own_form hown5; have HGO5 := Lib.hid ((hg5.block g HGL.out HNE.out).trans HGX.out); have HOWN5 := Lib.hid hown5; have HG5 := Lib.hid hg5; have HB5 := Lib.hid hb5; have HF5 := Lib.hid hf5; clear hown5 hg5 hb5 hf5)
        | (refine wpl_store rfl rfl st28 rfl rfl rfl rfl (by intro u hu; rw [List.mem_singleton.1 hu]; rfl) HGO5.out (Nat.le_refl 13) (row := VC.cells ⟨hdK 7, .slice none 0 0, .slice none 0 0, .slice va5 (l4.length + 1) vcap5⟩) rfl ?_; generalize hW6 : World.setRow _ _ _ = w6; have HF : Hid (MS wm w6 g B l5) := (by unfold Hid; rw [HW5.out]; exact MS.push HBZ.out HM.out HB.out HCL.out HRS.out (by decide) HXV.out HOWN5.out HG5.out HB5.out HF5.out hW6); clear hW6))
      go_meet
      exact HF.out
  case rest =>
  clear HS
  have HS := Lib.hid hcut
  clear hcut
  obtain ⟨F, hm, hb⟩ := HS.out
  have HMC : Hid (∀ j, j < 13 → wc.cell? ⟨g, 0 + j, none⟩ = (VC.cells ⟨hdK 7, .slice none 0 0, .slice none 0 0, F⟩)[j]?) := rowV hm.1
  have HRXc := Lib.hid ((hb.block _ (by rw [HZM.out]; omega)).trans HRX.out)
  have hrd := hm.rd (by have := HLEN.out; omega)
  have HONE := Lib.hid (vc_one hrd.any)
  have HRDF := Lib.hid hrd
  have HBB := Lib.hid (HBM.out.trans (hb.mono (by rw [HZM.out]; omega)))
  clear hm hb hrd HS
  go_wp2_with (first
    | refine wpl_load rfl rfl stVk rfl (cells_len _) HMC.out ?_
    | (refine wpl_store rfl rfl stVk.2 rfl rfl (cs := VC.cells ⟨hdK 7, .slice none 0 0, .slice none 0 0, F⟩) rfl (cells_len _) HONE.out HRXc.out (Nat.le_refl 13) (row := VC.cells ⟨hdK 7, .slice none 0 0, .slice none 0 0, F⟩) rfl ?_; generalize hW3 : World.setRow _ _ _ = w5; obtain ⟨hd3, hk3, hz3, hb3⟩ := setRow_of hW3 HRXc.out; clear hW3))
  obtain ⟨⟨z0, z1, z2, z3, z4, z5, z6, z7, z8, z9, z10, z11, z12⟩, zf⟩ := box13 hd3
  refine bodyPost_ret (v := aggV ⟨hdK 7, .slice none 0 0, .slice none 0 0, F⟩) (by simp [results, Tryz.results42, go_sem, z0, z1, z2, z3, z4, z5, z6, z7, z8, z9, z10, z11, z12]) rfl ⟨_, rfl, ?_, HBB.out.trans (hb3 _ (by omega))⟩
  rw [HWV.out]
  refine (HRDF.out.kept (fun b hb _ => hk3 b (by have := HZM.out; rcases hb with h | h <;> omega)) (by omega)).mono fun b hb => ?_
  have := HZM.out
  rcases hb with h | h
  · exact .inl h
  · exact .inr (by omega)
end Go.Proofs.YthdninnjjmhpfaaGreatDoor
