/- datakitref08.Parse walked. Conditions: strings of at most 10^9 bytes. -/
import Derived.Test.YtemiihkmpojpgaaGreatDoorZq22
import Derived.Test.YtemiihkmpojpgaaGreatDoorZq15
namespace Go.Proofs.YtemiihkmpojpgaaGreatDoor
open Go.RowKit Go.Shelf
set_option maxHeartbeats 2000000
set_option maxRecDepth 100000

/-- What Parse hands back. -/
def ParPost (w : World) (x : List St × Nat) (e : Ending) (w' : World) : Prop :=
  ∃ v, e = .returned (.tuple #[v, .int .i64 (x.2 : Int)]) ∧ w'.ownsRow w.heap.size 81 3 v x.1.length (x.1.flatMap stk) ∧ Below w.heap.size w w'
theorem ParPost_none {w w' : World} {x : List St × Nat} {a : Nat} (h : x = ([], a)) (hb : Below w.heap.size w w') :
    ParPost w x (.returned (.tuple #[.slice none 0 0, .int .i64 a])) w' := by
  subst h
  exact ⟨_, rfl, World.ownsRow_nil _ _ _ _, hb⟩
def restN (w : World) (R : Nat) : Nat := match w.cell? ⟨R, 0, none⟩ with
  | some (.string r) => r.size
  | _ => 0
theorem beq46 (s : ByteArray) : (s.toList == [46]) = decide (L s = [46]) := by
  rw [toList_L]
  by_cases h : L s = [46]
  · rw [h]; rfl
  · rw [decide_eq_false h, beq_eq_false_iff_ne]; exact h
/-- The captured variable holds r. -/
def Var (w : World) (R : Nat) (r : ByteArray) : Prop := w.cell? ⟨R, 0, none⟩ = some (.string r) ∧ w.frozen? ⟨R, 0, none⟩ = false ∧ R < w.heap.size
theorem Var.set {w : World} {R : Nat} {r : ByteArray} (h : Var w R r) (t : ByteArray) : Var (w.setCell ⟨R, 0, none⟩ (.string t)) R t := by
  obtain ⟨h1, h2, h3⟩ := h
  exact ⟨World.cell?_setCell_same _ _ _ h1, by rw [World.frozen?_setCell]; exact h2, by rw [World.size_setCell]; exact h3⟩
theorem Var.below {w w' : World} {R B : Nat} {r : ByteArray} (h : Var w R r) (hb : Below B w w') (hR : R < B) : Var w' R r :=
  ⟨(hb.cell hR).trans h.1, (hb.frozen hR).trans h.2.1, Nat.lt_of_lt_of_le h.2.2 hb.size⟩
/-- The worlds part in that variable alone. -/
def SetR (R : Nat) (w w' : World) : Prop := ∃ t : ByteArray, w' = w.setCell ⟨R, 0, none⟩ (.string t)
theorem SetR.below {R B : Nat} {a w w' : World} (h : SetR R w w') (hb : Below B a w) (hR : B ≤ R) : Below B a w' := by
  obtain ⟨t, rfl⟩ := h
  exact hb.setCell (p := ⟨R, 0, none⟩) hR _
theorem SetR.own {R : Nat} {w w' : World} (h : SetR R w w') {base : Nat} {e : TypeId} {size : Nat} {v : Value} {n : Nat} {xs : List Value} (ho : w.ownsRow base e size v n xs) (hR : R < base) : w'.ownsRow base e size v n xs := by
  obtain ⟨t, rfl⟩ := h
  exact ownsRow_setCell_below ho (a := ⟨R, 0, none⟩) hR _
theorem SetR.size {R : Nat} {w w' : World} (h : SetR R w w') : w'.heap.size = w.heap.size := by
  obtain ⟨t, rfl⟩ := h
  exact World.size_setCell ..
theorem skip_any (n R : Nat) (r : ByteArray) (w : World) (hV : Var w R r) (hn : n ≤ r.size) :
    Calls Tryz.prog 39 #[.int .i64 n, .pointer (some ⟨R, 0, none⟩)] w fun e w' => e = .returned (.string (r.extract 0 n)) ∧ Var w' R (r.extract n r.size) ∧ SetR R w w' := by
  obtain ⟨hc, hf, hR⟩ := hV
  have HS := Lib.hid (Var.set (w := w) (R := R) (r := r) ⟨hc, hf, hR⟩ (r.extract n r.size))
  go_enter Tryz.func39, Tryz.ntmps39
  go_wp2_with fail
  go_ret
  exact ⟨rfl, HS.out, _, rfl⟩
theorem beq2 (s : ByteArray) (a b : UInt8) : ((s.extract 0 2).toList == [a, b]) = decide ((L s).take 2 = [a, b]) := by
  rw [toList_L, L_upto]
  by_cases h : (L s).take 2 = [a, b]
  · rw [h, decide_eq_true rfl]; simp
  · rw [decide_eq_false h, beq_eq_false_iff_ne]; exact h
theorem At_any (n : Int) (w : World) : Calls Tryz.prog 41 #[.int .i64 n] w fun e w' => e = .returned (.agg #[.bool true, .string ⟨#[]⟩, .int .i64 n]) ∧ Below w.heap.size w w' := by
  go_enter Tryz.func41, Tryz.ntmps41
  go_wp2_with fail
  exact bodyPost_ret (v := .agg #[.bool true, .string ⟨#[]⟩, .int .i64 n]) (by simp [results, Tryz.results41, go_sem]) rfl ⟨rfl, (Below.refl _ w).alloc (Nat.le_refl _) _⟩
theorem Key_any (t : ByteArray) (w : World) : Calls Tryz.prog 43 #[.string t] w fun e w' => e = .returned (.agg #[.bool false, .string t, .int .i64 0]) ∧ Below w.heap.size w w' := by
  go_enter Tryz.func43, Tryz.ntmps43
  go_wp2_with fail
  exact bodyPost_ret (v := .agg #[.bool false, .string t, .int .i64 0]) (by simp [results, Tryz.results43, go_sem]) rfl ⟨rfl, (Below.refl _ w).alloc (Nat.le_refl _) _⟩
theorem own_formS {w : World} {base : Nat} {e : TypeId} {size : Nat} {v : Value} {n : Nat} {xs : List Value} (h : w.ownsRow base e size v n xs) : ∃ A cap, v = .slice A n cap := by
  rcases h.2 with ⟨rfl, h0⟩ | ⟨g, cap, cur, rfl, _⟩
  · subst h0; exact ⟨_, _, rfl⟩
  · exact ⟨_, _, rfl⟩
theorem head1 (r : ByteArray) (h : 0 < r.size) (b : UInt8) : ((r.extract 0 1).toList == [b]) = decide (r[0] = b) := by
  rw [toList_L, L_upto, L_take_succ r 0 h]
  by_cases hb : r[0] = b
  · rw [decide_eq_true hb, hb]; simp
  · rw [decide_eq_false hb, beq_eq_false_iff_ne]
    intro h'
    simp at h'
    exact hb h'
theorem unqF_le : ∀ (f : Nat) (l : List UInt8) (r : List UInt8 × Nat), unqF f l = some r → r.2 ≤ l.length
  | 0, _, _, h => by cases h
  | _ + 1, [], _, h => by cases h
  | f + 1, b :: t, r, h => by
    rw [unqF_cons] at h
    split at h
    · cases h; simp
    split at h
    · split at h
      · cases h
      · cases hu : unqF f (t.drop (escI t).2) with
        | none => rw [hu] at h; cases h
        | some x =>
          rw [hu] at h
          cases h
          have := unqF_le f _ x hu
          have := (escI_lt t).2
          simp only [List.length_drop] at *
          simp only [List.length_cons]
          omega
    · cases hu : unqF f t with
      | none => rw [hu] at h; cases h
      | some x =>
        rw [hu] at h
        cases h
        have := unqF_le f _ x hu
        simp only [List.length_cons]
        omega
theorem loopI_step (k : Nat) (l : List UInt8) (st : St) (l' : List UInt8) (acc : List St) (hk : k ≤ 48) (hl : l ≠ []) (h : stepI l = some (st, l')) :
    (loopI (49 - k) k l).map (fun p => acc ++ p) = (loopI (49 - (k + 1)) (k + 1) l').map (fun p => (acc ++ [st]) ++ p) := by
  rw [show 49 - k = (49 - (k + 1)) + 1 by omega, loopI, if_neg (by rintro (h | h); exact hl h; omega), h]
  simp only [Option.map_map]
  congr 1
  funext p
  simp
theorem loopI_bad (k : Nat) (l : List UInt8) (acc : List St) (hk : k ≤ 48) (hl : l ≠ []) (h : stepI l = none) : (loopI (49 - k) k l).map (fun p => acc ++ p) = none := by
  rw [show 49 - k = (49 - (k + 1)) + 1 by omega, loopI, if_neg (by rintro (h | h); exact hl h; omega), h]
  rfl
theorem loopI_end (k : Nat) (l : List UInt8) (acc : List St) (h : l = [] ∨ 48 < k) : (loopI (49 - k) k l).map (fun p => acc ++ p) = some acc := by
  by_cases hk : k ≤ 48
  · rw [show 49 - k = (49 - (k + 1)) + 1 by omega, loopI, if_pos h]; simp
  · rw [show 49 - k = 0 by omega, loopI]; simp
def stA (t : List UInt8) : Option (St × List UInt8) := if idx93 t = 0 ∨ 6 < idx93 t ∨ idx93 t = t.length then none else match Lib.atoi (t.take (idx93 t)) with
  | some i => some ((true, ⟨#[]⟩, i), t.drop (idx93 t + 1))
  | none => none
def stB (t : List UInt8) : Option (St × List UInt8) := match unqF t.length (t.drop 1) with
  | some r => some ((false, ⟨r.1.toArray⟩, 0), t.drop (r.2 + 1))
  | none => none
def stC6 (t : List UInt8) : Option (St × List UInt8) := if 0 < folL t then some ((false, ⟨(t.take (folL t)).toArray⟩, 0), t.drop (folL t)) else none
theorem step_cases (c : UInt8) (t : List UInt8) : stepI (c :: t) = if c.toNat = 91 then stA t else if c.toNat = 46 then (if t.head? = some 34 then stB t else stC6 t) else none := by
  rw [stepI_cons]
  by_cases h1 : c.toNat = 91
  · rw [if_pos h1, if_pos h1]; rfl
  rw [if_neg h1, if_neg h1]
  by_cases h2 : c.toNat = 46
  · rw [if_pos h2]
    by_cases h3 : t.head? = some 34
    · rw [if_pos ⟨h2, h3⟩, if_pos h3]; rfl
    · rw [if_neg (fun h => h3 h.2), if_neg h3]
      unfold stC6
      by_cases h4 : 0 < folL t
      · rw [if_pos ⟨h2, h4⟩, if_pos h4]
      · rw [if_neg (fun h => h4 h.2), if_neg h4]
  · rw [if_neg h2, if_neg (fun h => h2 h.1), if_neg (fun h => h2 h.1)]
theorem stB_none (t : List UInt8) (h : unqF t.length (t.drop 1) = none) : stB t = none := by unfold stB; rw [h]
theorem stB_some (t : List UInt8) (r : List UInt8 × Nat) (h : unqF t.length (t.drop 1) = some r) : stB t = some ((false, ⟨r.1.toArray⟩, 0), t.drop (r.2 + 1)) := by unfold stB; rw [h]
theorem stA_none (t : List UInt8) (h : idx93 t = 0 ∨ 6 < idx93 t ∨ idx93 t = t.length) : stA t = none := by unfold stA; rw [if_pos h]
theorem stA_bad (t : List UInt8) (h : ¬ (idx93 t = 0 ∨ 6 < idx93 t ∨ idx93 t = t.length)) (h2 : Lib.atoi (t.take (idx93 t)) = none) : stA t = none := by unfold stA; rw [if_neg h, h2]
theorem stA_some (t : List UInt8) (i : Int) (h : ¬ (idx93 t = 0 ∨ 6 < idx93 t ∨ idx93 t = t.length)) (h2 : Lib.atoi (t.take (idx93 t)) = some i) : stA t = some ((true, ⟨#[]⟩, i), t.drop (idx93 t + 1)) := by unfold stA; rw [if_neg h, h2]
theorem Parse_any (s : ByteArray) (w : World) (hs : s.size ≤ 1000000000) (he : Env w) :
    Calls Tryz.prog 18 #[.string s] w (ParPost w (parseL (L s))) := by
  have HC := Lib.hid (fun w' => Valid_any s w' (by omega))
  by_cases hb : badL (L s) = (L s).length
  case neg =>
    have hv : validL (L s) = false := decide_eq_false hb
    have HF : Hid (parseL (L s) = ([], 5)) := by unfold Hid parseL; rw [if_pos hb]
    rw [hv] at HC
    clear hb hv
    go_enter Tryz.func18, Tryz.ntmps18
    go_wp2_with fail
    refine (HC.out _).mono ?_
    rintro e w1 ⟨rfl, rfl⟩
    go_wp2_with fail
    go_ret2
    exact ParPost_none HF.out (Below.refl _ _)
  have hv : validL (L s) = true := decide_eq_true hb
  rw [hv] at HC
  by_cases h46 : L s = [46]
  · have e46 : (s.toList == [46]) = true := by rw [beq46]; exact decide_eq_true h46
    have HF : Hid (parseL (L s) = ([], 0)) := by unfold Hid parseL; rw [if_neg (by omega), if_pos h46]
    clear hb hv h46
    go_enter Tryz.func18, Tryz.ntmps18
    go_wp2_with fail
    refine (HC.out _).mono ?_
    rintro e w1 ⟨rfl, rfl⟩
    go_wp2_with fail
    go_ret2
    exact ParPost_none HF.out (Below.refl _ _)
  have e46 : (s.toList == [46]) = false := by rw [beq46]; exact decide_eq_false h46
  have HF : Hid (parseL (L s) = accept (L s) (loopI 49 0 (strip (L s)))) := by unfold Hid parseL; rw [if_neg (by omega), if_neg h46]
  have HE := Lib.hid he
  clear hb hv he
  go_enter Tryz.func18, Tryz.ntmps18
  go_wp2_with fail
  refine (HC.out _).mono ?_
  rintro e w1 ⟨rfl, rfl⟩
  obtain ⟨B, hB⟩ : ∃ B, decide ((L s).take 2 = [46, 91]) = B := ⟨_, rfl⟩
  have hBr : ∃ r0 : ByteArray, L r0 = strip (L s) ∧ r0 = if B then s.extract 1 s.size else s := by
    refine ⟨if B then s.extract 1 s.size else s, ?_, rfl⟩
    unfold strip
    cases B
    · rw [if_neg (of_decide_eq_false hB)]; rfl
    · rw [if_pos (of_decide_eq_true hB)]; exact L_from s 1
  obtain ⟨r0, hr0, hr0e⟩ := hBr
  have HR0 := Lib.hid hr0
  have HB2 : Hid (((s.extract 0 2).toList == [46, 91]) = B) := by unfold Hid; rw [beq2]; exact hB
  have HB1 : Hid (B = true → 1 < s.size) := by
    unfold Hid
    intro h
    rw [h] at hB
    have := congrArg List.length (of_decide_eq_true hB)
    rw [List.length_take, L_len] at this
    simp at this
    omega
  clear hB hr0
  go_upto_region 7 with fail
  go_cut [27] (fun v wx => v = .bool B ∧ wx = w.alloc (.cells #[.string s] 9))
  case first =>
    go_wp2_with fail
    all_goals
      go_meet
      refine ⟨?_, rfl⟩
      first
        | (show Value.bool _ = _; rw [HB2.out])
        | (show Value.bool false = _
           cases B
           · rfl
           · have := HB1.out rfl; omega)
  case rest =>
    obtain ⟨rfl, rfl⟩ := hcut
    have hcell0 : (w.alloc (.cells #[.string s] 9)).cell? ⟨w.heap.size, 0, none⟩ = some (.string s) := by rw [cell_of_alloc]; rfl
    have hfz0 : (w.alloc (.cells #[.string s] 9)).frozen? ⟨w.heap.size, 0, none⟩ = false := by simp
    have hV0 : Var (w.alloc (.cells #[.string s] 9)) w.heap.size s := ⟨hcell0, hfz0, by simp⟩
    have HV0 := Lib.hid hV0
    have hbw0 : Below w.heap.size w (w.alloc (.cells #[.string s] 9)) := (Below.refl _ w).alloc (Nat.le_refl _) _
    have HBW0 := Lib.hid hbw0
    clear hbw0 hV0
    go_upto_if 27 with fail
    go_cut [] (fun wx => Var wx w.heap.size r0 ∧ Below w.heap.size w wx)
    case first =>
      cases B
      · simp only [Bool.false_eq_true, if_false] at hr0e
        subst hr0e
        go_wp2_with fail
        go_meet
        exact ⟨HV0.out, HBW0.out⟩
      · simp only [if_true] at hr0e
        have h1s := HB1.out rfl
        go_wp2_with fail
        refine (skip_any 1 _ s _ HV0.out (by omega)).mono ?_
        rintro e w1 ⟨rfl, hV1, hS1⟩
        have hbw1 := hS1.below HBW0.out (Nat.le_refl _)
        go_wp2_with fail
        go_meet
        rw [hr0e]
        exact ⟨hV1, hbw1⟩
    case rest =>
      obtain ⟨hVc, hbc⟩ := hcut
      have HVC := Lib.hid hVc
      have HBC := Lib.hid hbc
      clear hVc hbc HB1 HB2 hr0e hcell0 hfz0 HV0 HBW0
      have hR : w.heap.size < w.heap.size + 1 := Nat.lt_succ_self _
      go_wp2_with fail
      go_loopw [6, 7, 8, 9, 10, 11, 12] (fun o _ _ _ _ _ _ wr => ∃ (k : Nat) (r : ByteArray) (acc : List St), k ≤ 49 ∧ acc.length = k ∧ r.size ≤ 1000000000 ∧ Hid (Var wr w.heap.size r) ∧ wr.ownsRow (w.heap.size + 1) 81 3 o k (acc.flatMap stk) ∧ Hid (loopI 49 0 (strip (L s)) = (loopI (49 - k) k (L r)).map fun p => acc ++ p) ∧ Below w.heap.size w wr) (fun _ _ _ _ _ _ _ wr => restN wr w.heap.size)
      case atStart =>
        refine ⟨0, r0, [], by omega, rfl, ?_, HVC.out, World.ownsRow_nil _ _ _ _, ?_, HBC.out⟩
        · have h := congrArg List.length HR0.out
          have h2 : (strip (L s)).length ≤ (L s).length := by unfold strip; split <;> simp
          rw [L_len] at h h2
          omega
        · unfold Hid; rw [HR0.out]; simp
      case round =>
        clear HVC HBC HR0
        obtain ⟨k, r, acc, hk, hal, hrs, HV, hown, HLR, hbw⟩ := hrel
        obtain ⟨A, cap, rfl⟩ := own_formS hown
        obtain ⟨hc0, hf0, hRw⟩ := HV.out
        have hz := hbw.size
        by_cases hex : r.size = 0 ∨ 48 < k
        · have HX : Hid (parseL (L s) = accept (L s) (some acc)) := by
            unfold Hid
            rw [HF.out, HLR.out, loopI_end k (L r) acc]
            rcases hex with h | h
            · exact .inl (List.length_eq_zero_iff.1 (by rw [L_len]; exact h))
            · exact .inr h
          have key : r.toList.isEmpty = true ∨ (r.toList.isEmpty = false ∧ 48 < k) := by
            by_cases h : r.size = 0
            · exact .inl (neE.2 h)
            · right
              exact ⟨by rw [Bool.eq_false_iff, ne_eq, neE]; exact h, by omega⟩
          have hown' : wr.ownsRow w.heap.size 81 3 (.slice A k cap) acc.length (acc.flatMap stk) := by rw [hal]; exact own_low hown (by omega)
          have HO := Lib.hid hown'
          have HRD := Lib.hid (Rd.of_own hown')
          clear hown hown' HLR HF hex
          by_cases hk0 : k = 0
          · have HF2 : Hid (parseL (L s) = ([], 3)) := by
              unfold Hid
              rw [HX.out]
              have : acc = [] := List.length_eq_zero_iff.1 (by omega)
              unfold accept
              simp [this]
            have hk0' : ((k : Int) == 0) = true := by rw [beq_iff_eq]; omega
            clear HX HO HRD
            rcases key with e1 | ⟨e1, e2⟩
            all_goals first
              | omega
              | (go_wp2_with fail
                 go_ret2
                 exact ParPost_none HF2.out hbw)
          have hk0' : ((k : Int) == 0) = false := by rw [beq_eq_false_iff_ne]; omega
          have HPV := Lib.hid (PValid_any (.slice A k cap) acc wr HRD.out)
          cases hv : validP acc
          · have HF2 : Hid (parseL (L s) = ([], 3)) := by unfold Hid; rw [HX.out]; unfold accept; simp [hv]
            rw [hv] at HPV
            clear HX HO HRD hv
            rcases key with e1 | ⟨e1, e2⟩
            all_goals
              go_wp2_with fail
              refine HPV.out.mono ?_
              rintro e w1 ⟨rfl, hb1⟩
              go_wp2_with fail
              go_ret2
              exact ParPost_none HF2.out (hbw.trans (hb1.mono hz))
          rw [hv] at HPV
          obtain ⟨T, hT⟩ : ∃ T : ByteArray, T = ⟨(textL acc).toArray⟩ := ⟨_, rfl⟩
          have hLT : L T = textL acc := by rw [hT]; rfl
          have HPT := Lib.hid (fun w' (hr : Rd w' (.slice A k cap) acc) (he : Env w') => PText_any (.slice A k cap) acc w' hr hv he.t)
          rw [← hT] at HPT
          by_cases heq : textL acc = L s
          · have HF2 : Hid (parseL (L s) = (acc, 0)) := by
              unfold Hid; rw [HX.out]; unfold accept
              simp only []
              rw [if_pos ⟨by intro h; rw [h] at hal; simp at hal; omega, hv, heq⟩]
            have eqs : (T.toList == s.toList) = true := by rw [toList_L, toList_L, hLT, heq]; simp
            clear HX hv heq hT hLT
            rcases key with e1 | ⟨e1, e2⟩
            all_goals
              go_wp2_with fail
              refine HPV.out.mono ?_
              rintro e w1 ⟨rfl, hb1⟩
              have hrd1 := (HRD.out).below hb1
              have hbw1 := hbw.trans (hb1.mono hz)
              have hen1 := (HE.out).below hbw1
              have hown1 := own_below HO.out hb1
              go_wp2_with fail
              refine (HPT.out _ hrd1 hen1).mono ?_
              rintro e w2 ⟨rfl, hb2⟩
              have hown2 := own_below hown1 hb2
              have hbw2 := hbw1.trans (hb2.mono hbw1.size)
              clear hown1 hrd1 hen1
              go_wp2_with fail
              go_ret2
              exact ⟨.slice A k cap, by rw [HF2.out]; rfl, by rw [HF2.out]; exact hown2, hbw2⟩
          · have HF2 : Hid (parseL (L s) = ([], 3)) := by
              unfold Hid; rw [HX.out]; unfold accept
              simp only []
              rw [if_neg (fun h => heq h.2.2)]
            have eqs : (T.toList == s.toList) = false := by rw [toList_L, toList_L, hLT, beq_eq_false_iff_ne]; exact heq
            clear HX hv heq hT hLT HO
            rcases key with e1 | ⟨e1, e2⟩
            all_goals
              go_wp2_with fail
              refine HPV.out.mono ?_
              rintro e w1 ⟨rfl, hb1⟩
              have hrd1 := (HRD.out).below hb1
              have hbw1 := hbw.trans (hb1.mono hz)
              have hen1 := (HE.out).below hbw1
              go_wp2_with fail
              refine (HPT.out _ hrd1 hen1).mono ?_
              rintro e w2 ⟨rfl, hb2⟩
              have hbw2 := hbw1.trans (hb2.mono hbw1.size)
              clear hrd1 hen1
              go_wp2_with fail
              go_ret2
              exact ParPost_none HF2.out hbw2
        have hr1 : 0 < r.size := by omega
        have hk48 : k ≤ 48 := by omega
        have e1 : r.toList.isEmpty = false := by rw [Bool.eq_false_iff, ne_eq, neE]; omega
        have hd0 := L_drop r 0 hr1
        rw [List.drop_zero, ← L_from r 1] at hd0
        have hxs : (r.extract 1 r.size).size = r.size - 1 := by rw [ByteArray.size_extract]; omega
        have h91 := head1 r hr1 91
        have h46 := head1 r hr1 46
        have HSK := Lib.hid (skip_any 1 w.heap.size r wr HV.out (by omega))
        have hrest : restN wr w.heap.size = r.size := by unfold restN; rw [hc0]
        have HREST := Lib.hid hrest
        have hbad : stepI (L r) = none → Hid (parseL (L s) = ([], 3)) := by
          intro h
          unfold Hid
          rw [HF.out, HLR.out, loopI_bad k (L r) acc hk48 (by rw [hd0]; simp) h]
          rfl
        have hgood : ∀ st l', stepI (L r) = some (st, l') → Hid (loopI 49 0 (strip (L s)) = (loopI (49 - (k + 1)) (k + 1) l').map fun p => (acc ++ [st]) ++ p) := by
          intro st l' h
          unfold Hid
          rw [HLR.out, loopI_step k (L r) st l' acc hk48 (by rw [hd0]; simp) h]
        have HBAD := Lib.hid hbad; clear hbad
        have HGOOD := Lib.hid hgood; clear hgood
        have hsc := step_cases r[0] (L (r.extract 1 r.size))
        rw [← hd0] at hsc
        have HSC := Lib.hid hsc
        clear hsc hd0 hrest HLR hex HV
        generalize r.extract 1 r.size = t at *
        have hts : t.size < r.size := by omega
        obtain ⟨c, hc⟩ : ∃ c, r[0] = c := ⟨_, rfl⟩
        rw [hc] at h91 h46 HSC
        clear hc
        by_cases c91 : c = 91
        case neg =>
          have e91 : ((r.extract 0 1).toList == [91]) = false := by rw [h91]; exact decide_eq_false c91
          have hn91 : ¬ c.toNat = 91 := by intro h; exact c91 (u8_of h)
          have HSC2 : Hid (stepI (L r) = if c.toNat = 46 then (if (L t).head? = some 34 then stB (L t) else stC6 (L t)) else none) := by unfold Hid; rw [HSC.out, if_neg hn91]
          clear HSC c91
          by_cases c46 : c = 46
          case neg =>
            have e46' : ((r.extract 0 1).toList == [46]) = false := by rw [h46]; exact decide_eq_false c46
            have hn46 : ¬ c.toNat = 46 := by intro h; exact c46 (u8_of h)
            have HFB := HBAD.out (by rw [HSC2.out, if_neg hn46])
            clear HSC2 HBAD HGOOD hn91 hn46 c46
            go_wp2_with fail
            refine HSK.out.mono ?_
            rintro e w1 ⟨rfl, hV1, hS1⟩
            have hbw1 := hS1.below hbw (Nat.le_refl _)
            have hown1 := hS1.own hown hR
            have hV1' := Lib.hid hV1
            obtain ⟨hc1, hf1, hR1⟩ := hV1
            clear hc0 hf0 hown HSK h91 h46 hS1
            go_wp2_with fail
            go_ret2
            exact ParPost_none HFB.out hbw1
          have e46' : ((r.extract 0 1).toList == [46]) = true := by rw [h46]; exact decide_eq_true c46
          have h46n : c.toNat = 46 := by rw [c46]; rfl
          by_cases ht0 : t.size = 0
          · have et : t.toList.isEmpty = true := neE.2 ht0
            have hLt : L t = [] := List.length_eq_zero_iff.1 (by rw [L_len]; exact ht0)
            have HFB := HBAD.out (by rw [HSC2.out, hLt, if_pos h46n]; rfl)
            have HFO := Lib.hid (follows_any t)
            have hf0' : folL (L t) = 0 := by rw [hLt]; rfl
            rw [hf0'] at HFO
            clear HSC2 HBAD HGOOD hn91 h46n c46 hLt hf0'
            go_wp2_with fail
            refine HSK.out.mono ?_
            rintro e w1 ⟨rfl, hV1, hS1⟩
            have hbw1 := hS1.below hbw (Nat.le_refl _)
            have hown1 := hS1.own hown hR
            have hV1' := Lib.hid hV1
            obtain ⟨hc1, hf1, hR1⟩ := hV1
            clear hc0 hf0 hown HSK h91 h46 hS1
            go_wp2_with (go_at_call 44; refine (HFO.out _ (by omega)).mono ?_; rintro e w2 ⟨rfl, rfl⟩)
            go_ret2
            exact ParPost_none HFB.out hbw1
          have ht1 : 0 < t.size := by omega
          have et : t.toList.isEmpty = false := by rw [Bool.eq_false_iff, ne_eq, neE]; exact ht0
          have hhd : (L t).head? = some t[0] := by
            have := L_drop t 0 ht1
            rw [List.drop_zero] at this
            rw [this]; rfl
          by_cases h34 : t[0].toNat = 34
          · have e34 : ((t[0].toNat : Int) == 34) = true := beqB _ _ (by omega)
            have HSC3 : Hid (stepI (L r) = stB (L t)) := by unfold Hid; rw [HSC2.out, if_pos h46n, if_pos (by rw [hhd, u8_of h34]; rfl)]
            have hBn := stB_none (L t)
            have hBs := stB_some (L t)
            have HUQ := Lib.hid (fun w' => unquote_any t w' (by omega) (by omega))
            have hle := unqF_le (L t).length ((L t).drop 1)
            rw [List.length_drop, L_len] at hle
            have hUT : unqT t = (unqF (L t).length ((L t).drop 1)).map fun r => (r.1, r.2 + 1) := by unfold unqT; rw [L_len]
            rw [hUT] at HUQ
            rw [L_len] at HUQ hBn hBs
            clear HSC2 hn91 h46n c46 hhd hUT
            generalize unqF t.size ((L t).drop 1) = U at *
            cases U with
            | none =>
              have HFB := HBAD.out (by rw [HSC3.out]; exact hBn rfl)
              have HUV : Hid (unqV (Option.map (fun r => (r.1, r.2 + 1)) (none : Option (List UInt8 × Nat))) = .tuple #[.string ⟨#[]⟩, .int .i64 0]) := rfl
              clear HSC3 HBAD HGOOD hle hBn hBs
              go_wp2_with fail
              refine HSK.out.mono ?_
              rintro e w1 ⟨rfl, hV1, hS1⟩
              have hbw1 := hS1.below hbw (Nat.le_refl _)
              have hown1 := hS1.own hown hR
              have hV1' := Lib.hid hV1
              obtain ⟨hc1, hf1, hR1⟩ := hV1
              clear hc0 hf0 hown HSK h91 h46 hS1
              have hen1 := (HE.out).below hbw1
              go_wp2_with fail
              refine (HUQ.out _ hen1).mono ?_
              rintro e w2 ⟨rfl, hb2⟩
              rw [HUV.out]
              have hbw2 := hbw1.trans (hb2.mono hbw1.size)
              clear hen1 hown1
              go_wp2_with fail
              go_ret2
              exact ParPost_none HFB.out hbw2
            | some x =>
              obtain ⟨x1, x2⟩ := x
              have hx2 := hle (x1, x2) rfl
              simp only [] at hx2
              have HG := HGOOD.out _ _ (by rw [HSC3.out]; exact hBs _ rfl)
              have HUV : Hid (unqV (Option.map (fun r => (r.1, r.2 + 1)) (some (x1, x2))) = .tuple #[.string ⟨x1.toArray⟩, .int .i64 ((x2 + 1 : Nat) : Int)]) := rfl
              have hx0 : (((x2 + 1 : Nat) : Int) == 0) = false := by rw [beq_eq_false_iff_ne]; omega
              clear HSC3 HBAD HGOOD hle hBn hBs
              go_wp2_with fail
              refine HSK.out.mono ?_
              rintro e w1 ⟨rfl, hV1, hS1⟩
              have hbw1 := hS1.below hbw (Nat.le_refl _)
              have hown1 := hS1.own hown hR
              have hV1' := Lib.hid hV1
              obtain ⟨hc1, hf1, hR1⟩ := hV1
              clear hc0 hf0 hown HSK h91 h46 hS1
              have hen1 := (HE.out).below hbw1
              go_wp2_with fail
              refine (HUQ.out _ hen1).mono ?_
              rintro e w2 ⟨rfl, hb2⟩
              rw [HUV.out]
              have hbw2 := hbw1.trans (hb2.mono hbw1.size)
              have hown2 := own_below hown1 hb2
              have hV2 := (hV1'.out).below hb2 hR1
              clear hen1 hown1 hc1 hf1 hb2 HUQ
              generalize hxn : x2 + 1 = n at *
              obtain ⟨hc2, hf2, hR2⟩ := hV2
              have HV2 := Lib.hid (⟨hc2, hf2, hR2⟩ : Var w2 w.heap.size t)
              go_wp2_with fail
              refine (skip_any n w.heap.size t w2 HV2.out (by omega)).mono ?_
              rintro e w3 ⟨rfl, hV3, hS3⟩
              have hbw3 := hS3.below hbw2 (Nat.le_refl _)
              have hown3 := hS3.own hown2 hR
              have HV3 := Lib.hid hV3
              clear hown2 hS3 hV3 hc2 hf2
              go_wp2_with fail
              refine (Key_any _ w3).mono ?_
              rintro e w4 ⟨rfl, hb4⟩
              have hV4 := (HV3.out).below hb4 (HV3.out).2.2
              have hown4 := own_below hown3 hb4
              have hbw4 := hbw3.trans (hb4.mono hbw3.size)
              have hR4 := hV4.2.2
              have HV4 := Lib.hid hV4
              clear hown3 hb4 hV4
              go_wp2_with (at_builtin; refine wp_push elem_step rfl _ _ rfl hown4 (stk (false, ⟨x1.toArray⟩, 0)) rfl (stk_one _) rfl rfl (by omega) hR4 ?_; intro v' w5 hown5 hg5 hb5)
              have hV5 := (HV4.out).below hb5 hR
              have hxt : (t.extract n t.size).size = t.size - n := by rw [ByteArray.size_extract]; omega
              refine ⟨⟨k + 1, t.extract n t.size, acc ++ [(false, ⟨x1.toArray⟩, 0)], by omega, by simp; omega, by omega, hV5, by rw [List.flatMap_append]; simpa using hown5, by rw [L_from]; exact HG, hbw4.trans (hb5.mono (by omega))⟩, ?_⟩
              rw [HREST.out]
              show restN _ _ < _
              unfold restN
              rw [hV5.1]
              show (t.extract n t.size).size < _
              omega
          · have e34 : ((t[0].toNat : Int) == 34) = false := beqNB _ _ (by omega)
            have HSC3 : Hid (stepI (L r) = if 0 < folL (L t) then some ((false, ⟨((L t).take (folL (L t))).toArray⟩, 0), (L t).drop (folL (L t))) else none) := by
              unfold Hid
              rw [HSC2.out, if_pos h46n, if_neg]
              · rfl
              · intro h
                rw [hhd] at h
                simp only [Option.some.injEq] at h
                rw [h] at h34
                exact h34 (by decide)
            have hfle := folL_le (L t)
            rw [L_len] at hfle
            have HFO := Lib.hid (follows_any t)
            have hkt : (⟨((L t).take (folL (L t))).toArray⟩ : ByteArray) = t.extract 0 (folL (L t)) := L_inj (by rw [L_upto]; rfl)
            rw [hkt] at HSC3
            clear HSC2 hn91 h46n c46 hhd h34 hkt
            generalize folL (L t) = f at *
            by_cases hf : 0 < f
            case neg =>
              have HFB := HBAD.out (by rw [HSC3.out, if_neg hf])
              have hf' : ¬ (0 : Int) < f := by omega
              clear HSC3 HBAD HGOOD hf
              go_wp2_with fail
              refine HSK.out.mono ?_
              rintro e w1 ⟨rfl, hV1, hS1⟩
              have hbw1 := hS1.below hbw (Nat.le_refl _)
              have hown1 := hS1.own hown hR
              have hV1' := Lib.hid hV1
              obtain ⟨hc1, hf1, hR1⟩ := hV1
              clear hc0 hf0 hown HSK h91 h46 hS1
              go_wp2_with (go_at_call 44; refine (HFO.out _ (by omega)).mono ?_; rintro e w2 ⟨rfl, rfl⟩)
              go_ret2
              exact ParPost_none HFB.out hbw1
            have HG := HGOOD.out _ _ (by rw [HSC3.out, if_pos hf])
            have hf' : (0 : Int) < f := by omega
            clear HSC3 HBAD HGOOD hf
            go_wp2_with fail
            refine HSK.out.mono ?_
            rintro e w1 ⟨rfl, hV1, hS1⟩
            have hbw1 := hS1.below hbw (Nat.le_refl _)
            have hown1 := hS1.own hown hR
            have hV1' := Lib.hid hV1
            obtain ⟨hc1, hf1, hR1⟩ := hV1
            clear hc0 hf0 hown HSK h91 h46 hS1
            go_wp2_with (go_at_call 44; refine (HFO.out _ (by omega)).mono ?_; rintro e w2 ⟨rfl, rfl⟩)
            refine (skip_any f w.heap.size t w1 hV1'.out hfle).mono ?_
            rintro e w3 ⟨rfl, hV3, hS3⟩
            have hbw3 := hS3.below hbw1 (Nat.le_refl _)
            have hown3 := hS3.own hown1 hR
            have HV3 := Lib.hid hV3
            clear hown1 hS3 hV3 hc1 hf1
            go_wp2_with fail
            refine (Key_any _ w3).mono ?_
            rintro e w4 ⟨rfl, hb4⟩
            have hV4 := (HV3.out).below hb4 (HV3.out).2.2
            have hown4 := own_below hown3 hb4
            have hbw4 := hbw3.trans (hb4.mono hbw3.size)
            have hR4 := hV4.2.2
            have HV4 := Lib.hid hV4
            clear hown3 hb4 hV4
            go_wp2_with (at_builtin; refine wp_push elem_step rfl _ _ rfl hown4 (stk (false, t.extract 0 f, 0)) rfl (stk_one _) rfl rfl (by omega) hR4 ?_; intro v' w5 hown5 hg5 hb5)
            have hV5 := (HV4.out).below hb5 hR
            have hxt : (t.extract f t.size).size = t.size - f := by rw [ByteArray.size_extract]; omega
            refine ⟨⟨k + 1, t.extract f t.size, acc ++ [(false, t.extract 0 f, 0)], by omega, by simp; omega, by omega, hV5, by rw [List.flatMap_append]; simpa using hown5, by rw [L_from]; exact HG, hbw4.trans (hb5.mono (by omega))⟩, ?_⟩
            rw [HREST.out]
            show restN _ _ < _
            unfold restN
            rw [hV5.1]
            show (t.extract f t.size).size < _
            omega
        have e91 : ((r.extract 0 1).toList == [91]) = true := by rw [h91]; exact decide_eq_true c91
        have h91n : c.toNat = 91 := by rw [c91]; rfl
        have HSC2 : Hid (stepI (L r) = stA (L t)) := by unfold Hid; rw [HSC.out, if_pos h91n]
        clear HSC h91n c91
        go_wp2_with fail
        refine HSK.out.mono ?_
        rintro e w1 ⟨rfl, hV1, hS1⟩
        have hbw1 := hS1.below hbw (Nat.le_refl _)
        have hown1 := hS1.own hown hR
        have hV1' := Lib.hid hV1
        obtain ⟨hc1, hf1, hR1⟩ := hV1
        clear hc0 hf0 hown HSK h91 h46 hS1
        go_wp2_with fail
        go_loop [8] (fun n => ∃ j : Nat, j ≤ t.size ∧ n = .int .i64 j ∧ Hid (idx93 (L t) = j + idx93 ((L t).drop j))) (fun n => t.size - (intOf n).toNat)
        case atStart => exact ⟨0, Nat.zero_le _, rfl, by unfold Hid; simp⟩
        case round =>
          obtain ⟨j, hj, rfl, HI⟩ := hrel
          have HNONE := Lib.hid (stA_none (L t))
          have HABAD := Lib.hid (stA_bad (L t))
          have HASOME := Lib.hid (stA_some (L t))
          by_cases hjt : j < t.size
          case neg =>
            have hidx : idx93 (L t) = t.size := by
              rw [HI.out, L_drop_nil t j (by omega)]
              show j + 0 = _
              omega
            have HFB := HBAD.out (by rw [HSC2.out]; exact HNONE.out (.inr (.inr (by rw [hidx, L_len]))))
            have hjn : ((j : Int) == t.size) = true := by rw [beq_iff_eq]; omega
            have hj0 : j = 0 ∨ 0 < j := by omega
            clear HSC2 HBAD HGOOD HI HNONE HABAD HASOME hidx
            by_cases g0 : j = 0
            · have g0' : ((j : Int) == 0) = true := by rw [beq_iff_eq]; omega
              go_wp2_with fail
              go_ret2
              exact ParPost_none HFB.out hbw1
            have g0' : ((j : Int) == 0) = false := by rw [beq_eq_false_iff_ne]; omega
            by_cases g6 : 6 < j
            · have g6' : (6 : Int) < j := by omega
              go_wp2_with fail
              go_ret2
              exact ParPost_none HFB.out hbw1
            · have g6' : ¬ (6 : Int) < j := by omega
              go_wp2_with fail
              go_ret2
              exact ParPost_none HFB.out hbw1
          have hd := L_drop t j hjt
          by_cases h93 : t[j].toNat = 93
          case neg =>
            have HI2 : Hid (idx93 (L t) = (j + 1) + idx93 ((L t).drop (j + 1))) := by
              unfold Hid
              rw [HI.out, hd]
              simp only [idx93]
              rw [if_neg h93]
              omega
            have e93 : ((t[j].toNat : Int) != 93) = true := by rw [bne_iff_ne]; omega
            clear HI hd HSC2 HBAD HGOOD HNONE HABAD HASOME
            go_wp2_with fail
            exact ⟨⟨j + 1, by omega, rfl, HI2⟩, by simp [intOf]; omega⟩
          have e93 : ((t[j].toNat : Int) != 93) = false := by rw [bne_eq_false_iff_eq]; omega
          have hidx : idx93 (L t) = j := by
            rw [HI.out, hd]
            simp only [idx93]
            rw [if_pos h93]
            rfl
          rw [hidx, L_len] at HNONE HABAD HASOME
          have hjn : ((j : Int) == t.size) = false := by rw [beq_eq_false_iff_ne]; omega
          clear HI hd h93 hidx
          by_cases g0 : j = 0
          · have g0' : ((j : Int) == 0) = true := by rw [beq_iff_eq]; omega
            have HFB := HBAD.out (by rw [HSC2.out]; exact HNONE.out (.inl g0))
            clear HSC2 HBAD HGOOD HNONE HABAD HASOME g0
            go_wp2_with fail
            go_ret2
            exact ParPost_none HFB.out hbw1
          have g0' : ((j : Int) == 0) = false := by rw [beq_eq_false_iff_ne]; omega
          by_cases g6 : 6 < j
          · have g6' : (6 : Int) < j := by omega
            have HFB := HBAD.out (by rw [HSC2.out]; exact HNONE.out (.inr (.inl g6)))
            clear HSC2 HBAD HGOOD HNONE HABAD HASOME
            go_wp2_with fail
            go_ret2
            exact ParPost_none HFB.out hbw1
          have g6' : ¬ (6 : Int) < j := by omega
          have hno : ¬ (j = 0 ∨ 6 < j ∨ j = t.size) := by omega
          have hLx : L (t.extract 0 j) = (L t).take j := L_upto t j
          have hxz : (t.extract 0 j).size = j := by rw [ByteArray.size_extract]; omega
          have HA1 := Lib.hid (fun n => Atoi_ok (t.extract 0 j) n (by omega))
          have HA2 := Lib.hid (Atoi_no (t.extract 0 j) (by omega))
          rw [hLx] at HA1 HA2
          have hab := HABAD.out hno
          have hag := fun i => HASOME.out i hno
          clear HNONE HABAD HASOME hLx hxz
          generalize hat : Lib.atoi ((L t).take j) = at1 at *
          cases at1 with
          | none =>
            have HFB := HBAD.out (by rw [HSC2.out]; exact hab rfl)
            clear HSC2 HBAD HGOOD hab hag hat
            go_wp2_with fail
            refine (skip_any j w.heap.size t w1 hV1'.out (by omega)).mono ?_
            rintro e w2 ⟨rfl, hV2, hS2⟩
            have hbw2 := hS2.below hbw1 (Nat.le_refl _)
            have hen2 := (HE.out).below hbw2
            clear hS2 hV2 hc1 hf1
            go_wp2_with fail
            refine (HA2.out trivial _ hen2).mono ?_
            rintro e w3 ⟨⟨N, rfl⟩, hb3⟩
            have hbw3 := hbw2.trans (hb3.mono hbw2.size)
            clear hen2
            go_wp2_with fail
            go_ret2
            exact ParPost_none HFB.out hbw3
          | some i =>
            have HG := HGOOD.out _ _ (by rw [HSC2.out]; exact hag i rfl)
            clear HSC2 HBAD HGOOD hab hag hat
            go_wp2_with fail
            refine (skip_any j w.heap.size t w1 hV1'.out (by omega)).mono ?_
            rintro e w2 ⟨rfl, hV2, hS2⟩
            have hbw2 := hS2.below hbw1 (Nat.le_refl _)
            have hown2 := hS2.own hown1 hR
            have HV2 := Lib.hid hV2
            clear hS2 hV2 hc1 hf1 hown1
            go_wp2_with fail
            refine (HA1.out i rfl _).mono ?_
            rintro e w3 ⟨rfl, hb3⟩
            have hbw3 := hbw2.trans (hb3.mono hbw2.size)
            have hown3 := own_below hown2 hb3
            have hV3 := (HV2.out).below hb3 (HV2.out).2.2
            clear hown2 hb3
            obtain ⟨hc3, hf3, hR3⟩ := hV3
            have HV3 := Lib.hid (⟨hc3, hf3, hR3⟩ : Var w3 w.heap.size (t.extract j t.size))
            have hxt : (t.extract j t.size).size = t.size - j := by rw [ByteArray.size_extract]; omega
            have hLr : L ((t.extract j t.size).extract 1 (t.extract j t.size).size) = (L t).drop (j + 1) := by rw [L_from, L_from, List.drop_drop]
            have hrz : ((t.extract j t.size).extract 1 (t.extract j t.size).size).size = t.size - j - 1 := by rw [ByteArray.size_extract, hxt]; omega
            have HS3 := Lib.hid (skip_any 1 w.heap.size (t.extract j t.size) w3 HV3.out (by omega))
            rw [← hLr] at HG
            clear HV3 hLr
            go_wp2_with fail
            refine (HS3.out).mono ?_
            rintro e w4 ⟨rfl, hV4, hS4⟩
            have hbw4 := hS4.below hbw3 (Nat.le_refl _)
            have hown4 := hS4.own hown3 hR
            have HV4 := Lib.hid hV4
            clear hS4 hV4 hown3 hc3 hf3
            go_wp2_with fail
            refine (At_any i w4).mono ?_
            rintro e w5 ⟨rfl, hb5⟩
            have hV5 := (HV4.out).below hb5 (HV4.out).2.2
            have hown5 := own_below hown4 hb5
            have hbw5 := hbw4.trans (hb5.mono hbw4.size)
            have hR5 := hV5.2.2
            have HV5 := Lib.hid hV5
            clear hown4 hb5 hV5
            go_wp2_with (at_builtin; refine wp_push elem_step rfl _ _ rfl hown5 (stk (true, ⟨#[]⟩, i)) rfl (stk_one _) rfl rfl (by omega) hR5 ?_; intro v' w6 hown6 hg6 hb6)
            have hV6 := (HV5.out).below hb6 hR
            refine ⟨⟨k + 1, (t.extract j t.size).extract 1 (t.extract j t.size).size, acc ++ [(true, ⟨#[]⟩, i)], by omega, by simp; omega, by omega, hV6, by rw [List.flatMap_append]; simpa using hown6, HG, hbw5.trans (hb6.mono (by omega))⟩, ?_⟩
            rw [HREST.out]
            show restN _ _ < _
            unfold restN
            rw [hV6.1]
            show ((t.extract j t.size).extract 1 (t.extract j t.size).size).size < _
            omega
end Go.Proofs.YtemiihkmpojpgaaGreatDoor

namespace Go.Proofs.YtemiihkmpojpgaaGreatDoor
open Go.RowKit Go.Shelf
set_option maxHeartbeats 2000000
set_option maxRecDepth 100000

theorem prefB (s T : ByteArray) (_ : T.size ≤ s.size) : ((s.extract 0 T.size).toList == T.toList) = (L T).isPrefixOf (L s) := by
  rw [toList_L, toList_L, L_upto, ← L_len T]
  cases hp : (L T).isPrefixOf (L s)
  · rw [beq_eq_false_iff_ne]
    intro he
    rw [Bool.eq_false_iff] at hp
    apply hp
    rw [List.isPrefixOf_iff_prefix, List.prefix_iff_eq_take]
    exact he.symm
  · rw [List.isPrefixOf_iff_prefix, List.prefix_iff_eq_take] at hp
    rw [← hp, beq_self_eq_true]
theorem bneQ (b : UInt8) (n : Int) (h : ¬ (b.toNat : Int) = n) : ((b.toNat : Int) != n) = true := by rw [bne_iff_ne]; exact h
theorem bneF (b : UInt8) (n : Int) (h : (b.toNat : Int) = n) : ((b.toNat : Int) != n) = false := by rw [bne_eq_false_iff_eq]; exact h
theorem sign_at (k : Nat) (hk : k < 128) (w : World) :
    Calls Tryz.prog 88 #[.int .u8 k] w fun e w' => e = .returned (.string ⟨(sgn (UInt8.ofNat k)).toArray⟩) ∧ Below w.heap.size w w' := by
  have h := sign_any (UInt8.ofNat k) w
  have hk' : (UInt8.ofNat k).toNat = k := by simp; omega
  rwa [hk'] at h
theorem unsign_any (s : ByteArray) (w : World) (hs : s.size ≤ 1000000000) :
    Calls Tryz.prog 85 #[.string s] w fun e w' => e = .returned (.tuple #[.int .u8 ((unsR (L s)).1 : Int), .int .i64 ((unsR (L s)).2 : Int)]) ∧ Below w.heap.size w w' := by
  go_enter Tryz.func85, Tryz.ntmps85
  go_wp2_with fail
  go_loopw [4, 5] (fun b _ wr => ∃ k : Nat, k ≤ 128 ∧ b = .int .i64 k ∧ Hid (∀ m, m < k → unsP (L s) m = false) ∧ Below w.heap.size w wr) (fun b _ _ => 128 - (intOf b).toNat)
  case atStart => exact ⟨0, by omega, rfl, by unfold Hid; intro m h; omega, Below.refl _ _⟩
  case round =>
    obtain ⟨k, hk, rfl, HN, hbw⟩ := hrel
    have hz := hbw.size
    by_cases hk2 : k < 128
    case neg =>
      have hnone : (List.range 128).find? (unsP (L s)) = none := by
        rw [List.find?_eq_none]
        intro n hn
        rw [HN.out n (by have := List.mem_range.1 hn; omega)]
        simp
      have HU : Hid (unsR (L s) = match L s with
        | b :: _ => if b.toNat ≠ 34 ∧ b.toNat ≠ 92 then (b.toNat, 1) else (0, 0)
        | [] => (0, 0)) := by unfold Hid unsR; rw [hnone]; try rfl
      clear hnone HN
      by_cases h0 : s.size = 0
      · have e0 : s.toList.isEmpty = true := neE.2 h0
        have HF : Hid (unsR (L s) = (0, 0)) := by
          have : L s = [] := List.length_eq_zero_iff.1 (by rw [L_len]; exact h0)
          unfold Hid; rw [HU.out, this]
        have h0' : ¬ (0 : Int) < (s.size : Int) := by omega
        clear h0 HU
        go_wp2_with fail
        all_goals first
          | omega
          | (go_ret2; exact ⟨ret2_esc (by rw [HF.out]; rfl) (by rw [HF.out]; rfl), hbw⟩)
      have hp : 0 < s.size := by omega
      have e0 : s.toList.isEmpty = false := by rw [Bool.eq_false_iff, ne_eq, neE]; exact h0
      have hd := L_drop s 0 hp
      rw [List.drop_zero] at hd
      have HX : Hid (unsR (L s) = if s[0].toNat ≠ 34 ∧ s[0].toNat ≠ 92 then (s[0].toNat, 1) else (0, 0)) := by
        unfold Hid
        rw [HU.out]
        conv => lhs; rw [hd]
      clear HU hd h0
      by_cases c1 : s[0].toNat = 34
      · have e1 : ((s[0].toNat : Int) != 34) = false := bneF _ _ (by omega)
        have HF : Hid (unsR (L s) = (0, 0)) := by unfold Hid; rw [HX.out, if_neg (fun h => h.1 c1)]
        clear HX c1
        go_wp2_with fail
        all_goals (go_ret2; exact ⟨ret2_esc (by rw [HF.out]; rfl) (by rw [HF.out]; rfl), hbw⟩)
      have e1 : ((s[0].toNat : Int) != 34) = true := bneQ _ _ (by omega)
      by_cases c2 : s[0].toNat = 92
      · have e2 : ((s[0].toNat : Int) != 92) = false := bneF _ _ (by omega)
        have HF : Hid (unsR (L s) = (0, 0)) := by unfold Hid; rw [HX.out, if_neg (fun h => h.2 c2)]
        clear HX c1 c2
        go_wp2_with fail
        all_goals (go_ret2; exact ⟨ret2_esc (by rw [HF.out]; rfl) (by rw [HF.out]; rfl), hbw⟩)
      have e2 : ((s[0].toNat : Int) != 92) = true := bneQ _ _ (by omega)
      have HF : Hid (unsR (L s) = (s[0].toNat, 1)) := by unfold Hid; rw [HX.out, if_pos ⟨c1, c2⟩]
      clear HX c1 c2
      go_wp2_with fail
      all_goals (go_ret2; exact ⟨ret2_esc (by rw [HF.out]) (by rw [HF.out]; rfl), hbw⟩)
    obtain ⟨T, hT⟩ : ∃ T : ByteArray, T = ⟨(sgn (UInt8.ofNat k)).toArray⟩ := ⟨_, rfl⟩
    have hLT : L T = sgn (UInt8.ofNat k) := by rw [hT]; rfl
    have hTs : T.size ≤ 10 := by
      rw [← L_len, hLT]
      unfold sgn hexT
      repeat' split
      all_goals simp
    have hP : unsP (L s) k = (decide (1 < T.size) && (L T).isPrefixOf (L s)) := by
      unfold unsP
      rw [hLT, ← L_len T, hLT]
    have HS := Lib.hid (fun w' => sign_at k hk2 w')
    rw [← hT] at HS
    have hnext : unsP (L s) k = false → Hid (∀ m, m < k + 1 → unsP (L s) m = false) := by
      intro h m h1
      by_cases h3 : m < k
      · exact HN.out m h3
      · obtain rfl : m = k := by omega
        exact h
    have hhit : unsP (L s) k = true → Hid (unsR (L s) = (k, T.size)) := by
      intro h
      have hf : (List.range 128).find? (unsP (L s)) = some k := by
        rw [List.find?_range_eq_some]
        refine ⟨h, List.mem_range.2 hk2, ?_⟩
        intro j hj
        rw [HN.out j hj]
        rfl
      unfold Hid unsR
      rw [hf]
      simp only []
      rw [← L_len T, hLT]
    rw [hP] at hnext hhit
    clear hP hT hLT HN
    have HNX := Lib.hid hnext; clear hnext
    have HHT := Lib.hid hhit; clear hhit
    by_cases c1 : 1 < T.size
    case neg =>
      have HN2 := HNX.out (by rw [decide_eq_false c1]; rfl)
      clear HNX HHT
      go_wp2_with fail
      refine (HS.out _).mono ?_
      rintro e w1 ⟨rfl, hb1⟩
      go_wp2_with fail
      exact ⟨⟨k + 1, by omega, rfl, HN2, hbw.trans (hb1.mono hz)⟩, by simp [intOf]; omega⟩
    by_cases c2 : T.size ≤ s.size
    case neg =>
      have HN2 := HNX.out (by
        rw [Bool.and_eq_false_iff]
        right
        rw [Bool.eq_false_iff]
        intro h
        have := (List.isPrefixOf_iff_prefix.1 h).length_le
        rw [L_len, L_len] at this
        exact c2 this)
      clear HNX HHT
      go_wp2_with fail
      refine (HS.out _).mono ?_
      rintro e w1 ⟨rfl, hb1⟩
      go_wp2_with fail
      exact ⟨⟨k + 1, by omega, rfl, HN2, hbw.trans (hb1.mono hz)⟩, by simp [intOf]; omega⟩
    rw [decide_eq_true c1, Bool.true_and, ← prefB s T c2] at HNX HHT
    cases hB : ((s.extract 0 T.size).toList == T.toList) with
    | false =>
      have HN2 := HNX.out hB
      clear HNX HHT
      go_wp2_with fail
      refine (HS.out _).mono ?_
      rintro e w1 ⟨rfl, hb1⟩
      go_wp2_with fail
      exact ⟨⟨k + 1, by omega, rfl, HN2, hbw.trans (hb1.mono hz)⟩, by simp [intOf]; omega⟩
    | true =>
      have HF := HHT.out hB
      clear HNX HHT
      go_wp2_with fail
      refine (HS.out _).mono ?_
      rintro e w1 ⟨rfl, hb1⟩
      go_wp2_with fail
      go_ret2
      exact ⟨ret2_esc (by rw [HF.out]) (by rw [HF.out]), hbw.trans (hb1.mono hz)⟩
theorem unsR_lt (l : List UInt8) : (unsR l).1 < 256 ∧ (unsR l).2 ≤ l.length := by
  unfold unsR
  split
  · rename_i n h
    have h1 := List.mem_range.1 (List.mem_of_find?_eq_some h)
    have h2 := List.find?_some h
    unfold unsP at h2
    simp only [Bool.and_eq_true, List.isPrefixOf_iff_prefix] at h2
    exact ⟨by omega, h2.2.length_le⟩
  · split
    · split
      · exact ⟨UInt8.toNat_lt _, by simp⟩
      · exact ⟨by decide, by simp⟩
    · exact ⟨by decide, by simp⟩
theorem quoF_fuel : ∀ (f g : Nat) (l : List UInt8), l.length < f → l.length < g → quoF f l = quoF g l
  | 0, _, _, h, _ => absurd h (Nat.not_lt_zero _)
  | _ + 1, 0, _, _, h => absurd h (Nat.not_lt_zero _)
  | f + 1, g + 1, [], _, _ => rfl
  | f + 1, g + 1, b :: t, h1, h2 => by
    simp only [List.length_cons] at h1 h2
    rw [quoF_cons, quoF_cons]
    split
    · rfl
    split
    · rfl
    · rename_i h3
      rw [quoF_fuel f g ((b :: t).drop (unsR (b :: t)).2) (by rw [List.length_drop, List.length_cons]; omega) (by rw [List.length_drop, List.length_cons]; omega)]
def quoT (s : ByteArray) : Option (List UInt8 × Nat) := (quoF s.size ((L s).drop 1)).map fun r => (r.1, r.2 + 1)
theorem quoted_any (s : ByteArray) (w : World) (h1 : 1 ≤ s.size) (hs : s.size ≤ 1000000000) :
    Calls Tryz.prog 68 #[.string s] w fun e w' => e = .returned (unqV (quoT s)) ∧ Below w.heap.size w w' := by
  have hst : quoT s = (quoF (s.size - 1 + 1) ((L s).drop 1)).map fun r => ([] ++ r.1, r.2 + 1) := by unfold quoT; rw [Nat.sub_add_cancel h1]; rfl
  have HST := Lib.hid hst; clear hst
  go_enter Tryz.func68, Tryz.ntmps68
  go_wp2_with fail
  go_loopw [4, 5, 6, 7] (fun o i _ _ wr => ∃ (k : Nat) (acc : List UInt8), 1 ≤ k ∧ k ≤ s.size ∧ i = .int .i64 k ∧ acc.length ≤ k ∧ wr.ownsRow w.heap.size 5 1 o acc.length (acc.map bv) ∧ Hid (quoT s = (quoF (s.size - k + 1) ((L s).drop k)).map fun r => (acc ++ r.1, r.2 + k)) ∧ Below w.heap.size w wr) (fun _ i _ _ _ => s.size - (intOf i).toNat)
  case atStart => exact ⟨1, [], Nat.le_refl _, h1, rfl, Nat.zero_le _, World.ownsRow_nil _ _ _ _, HST.out, Below.refl _ _⟩
  case round =>
    clear HST
    obtain ⟨k, acc, hk1, hk, rfl, hal, hown, HR, hbw⟩ := hrel
    have hz := hbw.size
    by_cases hlt : k < s.size
    case neg =>
      have HF : Hid (unqV (quoT s) = .tuple #[.string ⟨#[]⟩, .int .i64 0]) := by
        unfold Hid
        rw [HR.out, L_drop_nil s k (by omega)]
        rfl
      clear HR
      go_wp2_with fail
      go_ret2
      exact ⟨by rw [HF.out]; rfl, hbw⟩
    have hd := L_drop s k hlt
    have HD : Hid (quoT s = (if s[k].toNat = 34 then some ([], 1) else if (unsR ((L s).drop k)).2 = 0 then none else (quoF (s.size - k) (((L s).drop k).drop (unsR ((L s).drop k)).2)).map fun r => (UInt8.ofNat (unsR ((L s).drop k)).1 :: r.1, r.2 + (unsR ((L s).drop k)).2)).map fun r => (acc ++ r.1, r.2 + k)) := by
      unfold Hid
      rw [HR.out, hd, quoF_cons]
    clear HR hd
    by_cases c1 : s[k].toNat = 34
    · have e1 : ((s[k].toNat : Int) != 34) = false := bneF _ _ (by omega)
      have HF : Hid (quoT s = some (acc, k + 1)) := by
        unfold Hid
        rw [HD.out, if_pos c1]
        simp [Nat.add_comm]
      have hcv := conv_own bytesT hown
      clear HD c1
      go_wp2_with fail
      go_ret2
      exact ⟨by rw [HF.out]; rfl, hbw⟩
    have e1 : ((s[k].toNat : Int) != 34) = true := bneQ _ _ (by omega)
    have HD2 : Hid (quoT s = (if (unsR ((L s).drop k)).2 = 0 then none else (quoF (s.size - k) (((L s).drop k).drop (unsR ((L s).drop k)).2)).map fun r => (UInt8.ofNat (unsR ((L s).drop k)).1 :: r.1, r.2 + (unsR ((L s).drop k)).2)).map fun r => (acc ++ r.1, r.2 + k)) := by unfold Hid; rw [HD.out, if_neg c1]
    have hLx : L (s.extract k s.size) = (L s).drop k := L_from s k
    have hxs : (s.extract k s.size).size ≤ s.size := by rw [ByteArray.size_extract]; omega
    have hlt2 := unsR_lt ((L s).drop k)
    rw [List.length_drop, L_len] at hlt2
    have HC := Lib.hid (fun w' => unsign_any (s.extract k s.size) w' (by omega))
    rw [hLx] at HC
    clear HD c1 hLx
    generalize hcc : (unsR ((L s).drop k)).1 = c at *
    generalize hnn : (unsR ((L s).drop k)).2 = n at *
    clear hcc hnn
    obtain ⟨hc256, hnl⟩ := hlt2
    go_wp2_with fail
    refine (HC.out _).mono ?_
    rintro e w1 ⟨rfl, hb1⟩
    have hown1 := own_below hown hb1
    have hbw1 := hbw.trans (hb1.mono hz)
    have hz1 := hbw1.size
    clear hown hb1 HC
    by_cases hn : n = 0
    · have hn0 : ((n : Int) == 0) = true := beq_iff_eq.2 (by omega)
      have HF : Hid (unqV (quoT s) = .tuple #[.string ⟨#[]⟩, .int .i64 0]) := by unfold Hid; rw [HD2.out, if_pos hn]; rfl
      clear HD2 hn
      go_wp2_with fail
      go_ret2
      exact ⟨by rw [HF.out]; rfl, hbw1⟩
    · have hn0 : ((n : Int) == 0) = false := beq_eq_false_iff_ne.2 (by omega)
      have HF : Hid (quoT s = (quoF (s.size - (k + n) + 1) ((L s).drop (k + n))).map fun r => ((acc ++ [UInt8.ofNat c]) ++ r.1, r.2 + (k + n))) := by
        unfold Hid
        rw [HD2.out, if_neg hn, List.drop_drop, quoF_fuel (s.size - k) (s.size - (k + n) + 1) _ (by rw [List.length_drop, L_len]; omega) (by rw [List.length_drop, L_len]; omega), Option.map_map]
        congr 1
        funext r
        simp only [Function.comp, List.append_assoc, List.cons_append, List.nil_append, Prod.mk.injEq, true_and]
        omega
      have hcn : (UInt8.ofNat c).toNat = c := by simp; omega
      have hcv : (c : Int) = ((UInt8.ofNat c).toNat : Int) := by rw [hcn]
      have HCN := Lib.hid hcv
      have hn1 : 1 ≤ n := by omega
      clear HD2 hn hcn hcv
      go_wp2_with (at_builtin; refine wp_pushM bytesT rfl _ _ rfl hown1 [UInt8.ofNat c] [.int .u8 (c : Int)] (by rw [HCN.out]; rfl) 1 rfl rfl _ rfl rfl (by omega) hz1 ?_; intro v' w2 hown2 hg2 hb2)
      exact ⟨⟨k + n, acc ++ [UInt8.ofNat c], by omega, by omega, by congr 1, by simp; omega, by rw [List.length_append]; exact hown2, HF, hbw1.trans hb2⟩, by simp [intOf]; omega⟩
end Go.Proofs.YtemiihkmpojpgaaGreatDoor

namespace Go.Proofs.YtemiihkmpojpgaaGreatDoor
open Go.RowKit Go.Shelf
set_option maxHeartbeats 2000000
set_option maxRecDepth 100000

theorem KeyR_any (t : ByteArray) (w : World) : Calls Tryz.prog 69 #[.string t] w fun e w' => e = .returned (.agg #[.bool false, .string t, .int .i64 0]) ∧ Below w.heap.size w w' := by
  go_enter Tryz.func69, Tryz.ntmps69
  go_wp2_with fail
  exact bodyPost_ret (v := .agg #[.bool false, .string t, .int .i64 0]) (by simp [results, Tryz.results69, go_sem]) rfl ⟨rfl, (Below.refl _ w).alloc (Nat.le_refl _) _⟩
theorem AtR_any (n : Int) (w : World) : Calls Tryz.prog 67 #[.int .i64 n] w fun e w' => e = .returned (.agg #[.bool true, .string ⟨#[]⟩, .int .i64 n]) ∧ Below w.heap.size w w' := by
  go_enter Tryz.func67, Tryz.ntmps67
  go_wp2_with fail
  exact bodyPost_ret (v := .agg #[.bool true, .string ⟨#[]⟩, .int .i64 n]) (by simp [results, Tryz.results67, go_sem]) rfl ⟨rfl, (Below.refl _ w).alloc (Nat.le_refl _) _⟩
theorem digR_le : ∀ (f acc : Nat) (l : List UInt8), (digR acc f l).2 ≤ l.length ∧ (digR acc f l).2 ≤ f
  | 0, _, _ => by unfold digR; exact ⟨Nat.zero_le _, Nat.le_refl _⟩
  | _ + 1, _, [] => by unfold digR; exact ⟨Nat.zero_le _, Nat.zero_le _⟩
  | f + 1, acc, b :: t => by
    have h := digR_le f (10 * acc + (b.toNat - 48)) t
    unfold digR
    split
    · simp only [List.length_cons]; omega
    · exact ⟨Nat.zero_le _, Nat.zero_le _⟩
theorem quoF_le : ∀ (f : Nat) (l : List UInt8) (r : List UInt8 × Nat), quoF f l = some r → r.2 ≤ l.length
  | 0, _, _, h => by cases h
  | _ + 1, [], _, h => by cases h
  | f + 1, b :: t, r, h => by
    rw [quoF_cons] at h
    have hu := (unsR_lt (b :: t)).2
    split at h
    · cases h; simp
    split at h
    · cases h
    · cases hq : quoF f ((b :: t).drop (unsR (b :: t)).2) with
      | none => rw [hq] at h; cases h
      | some x =>
        rw [hq] at h
        cases h
        have := quoF_le f _ x hq
        rw [List.length_drop] at this
        simp only [] at *
        omega
def qstep (o : Option (List UInt8 × Nat)) : Option (St × Nat) := match o with
  | some r => some ((false, ⟨r.1.toArray⟩, 0), r.2 + 2)
  | none => none
def stepV (o : Option (St × Nat)) : Value := match o with
  | some r => .tuple #[stpV r.1, .int .i64 (r.2 : Int)]
  | none => .tuple #[stpV (false, ⟨#[]⟩, 0), .int .i64 0]
theorem res_cells {w w1 : World} (hb : Below (w.alloc (.cells #[.bool false, .string ⟨#[]⟩, .int .i64 0] 81)).heap.size (w.alloc (.cells #[.bool false, .string ⟨#[]⟩, .int .i64 0] 81)) w1) :
    (w1.cell? ⟨w.heap.size, 0, none⟩ = some (.bool false) ∧ w1.cell? ⟨w.heap.size, 1, none⟩ = some (.string ⟨#[]⟩) ∧ w1.cell? ⟨w.heap.size, 2, none⟩ = some (.int .i64 0)) ∧
    (w1.frozen? ⟨w.heap.size, 0, none⟩ = false ∧ w1.frozen? ⟨w.heap.size, 1, none⟩ = false ∧ w1.frozen? ⟨w.heap.size, 2, none⟩ = false) := by
  have hs : w.heap.size < (w.alloc (.cells #[.bool false, .string ⟨#[]⟩, .int .i64 0] 81)).heap.size := by simp
  refine ⟨⟨?_, ?_, ?_⟩, ?_, ?_, ?_⟩
  · rw [hb.cell hs, cell_of_alloc]; rfl
  · rw [hb.cell hs, cell_of_alloc]; rfl
  · rw [hb.cell hs, cell_of_alloc]; rfl
  · rw [hb.frozen hs]; simp
  · rw [hb.frozen hs]; simp
  · rw [hb.frozen hs]; simp
theorem set3 (w : World) (g : Nat) {x y z : Value} (h0 : w.cell? ⟨g, 0, none⟩ = some x) (h1 : w.cell? ⟨g, 1, none⟩ = some y) (h2 : w.cell? ⟨g, 2, none⟩ = some z) (a b c : Value) :
    (((w.setCell ⟨g, 0, none⟩ a).setCell ⟨g, 1, none⟩ b).setCell ⟨g, 2, none⟩ c).cell? ⟨g, 0, none⟩ = some a ∧ (((w.setCell ⟨g, 0, none⟩ a).setCell ⟨g, 1, none⟩ b).setCell ⟨g, 2, none⟩ c).cell? ⟨g, 1, none⟩ = some b ∧ (((w.setCell ⟨g, 0, none⟩ a).setCell ⟨g, 1, none⟩ b).setCell ⟨g, 2, none⟩ c).cell? ⟨g, 2, none⟩ = some c := by
  have n01 : (⟨g, 0, none⟩ : Addr) ≠ ⟨g, 1, none⟩ := by simp
  have n02 : (⟨g, 0, none⟩ : Addr) ≠ ⟨g, 2, none⟩ := by simp
  have n12 : (⟨g, 1, none⟩ : Addr) ≠ ⟨g, 2, none⟩ := by simp
  refine ⟨?_, ?_, ?_⟩
  · rw [World.cell?_setCell_other (h := n02.symm), World.cell?_setCell_other (h := n01.symm)]
    exact World.cell?_setCell_same _ _ _ h0
  · rw [World.cell?_setCell_other (h := n12.symm)]
    exact World.cell?_setCell_same _ _ _ ((World.cell?_setCell_other _ _ _ _ n01).trans h1)
  · exact World.cell?_setCell_same _ _ _ ((World.cell?_setCell_other _ _ _ _ n12).trans ((World.cell?_setCell_other _ _ _ _ n02).trans h2))
theorem step_any (s : ByteArray) (w : World) (h1 : 1 ≤ s.size) (hs : s.size ≤ 1000000000) :
    Calls Tryz.prog 47 #[.string s] w fun e w' => e = .returned (stepV (stepR (L s))) ∧ Below w.heap.size w w' := by
  have hp : 0 < s.size := by omega
  have hd := L_drop s 0 hp
  rw [List.drop_zero] at hd
  have HX := Lib.hid (stepR_cons s[0] ((L s).drop 1))
  rw [← hd] at HX
  by_cases c1 : s[0].toNat = 91
  · have e1 : ((s[0].toNat : Int) == 91) = true := beqB _ _ (by omega)
    have HX1 : Hid (stepR (L s) = if (digR 0 8 ((L s).drop 1)).2 = 0 ∨ ((L s).drop 1)[(digR 0 8 ((L s).drop 1)).2]? ≠ some 93 then none else some ((true, ⟨#[]⟩, ((digR 0 8 ((L s).drop 1)).1 : Int)), (digR 0 8 ((L s).drop 1)).2 + 2)) := by
      unfold Hid; rw [HX.out, if_pos c1]
    clear HX c1 hd
    go_enter Tryz.func47, Tryz.ntmps47
    go_wp2_with fail
    go_loopw [4, 5] (fun j v wr => ∃ k acc : Nat, 1 ≤ k ∧ k ≤ 9 ∧ k ≤ s.size ∧ j = .int .i64 k ∧ v = .int .i64 acc ∧ acc < 10 ^ (k - 1) ∧ Hid (digR 0 8 ((L s).drop 1) = ((digR acc (9 - k) ((L s).drop k)).1, (digR acc (9 - k) ((L s).drop k)).2 + (k - 1))) ∧ wr = w.alloc (.cells #[.bool false, .string ⟨#[]⟩, .int .i64 0] 81)) (fun j _ _ => 9 - (intOf j).toNat)
    case atStart => exact ⟨1, 0, by omega, by omega, by omega, rfl, rfl, by decide, rfl, rfl⟩
    case round =>
      obtain ⟨k, acc, hk1, hk9, hk, rfl, rfl, hacc, HR, rfl⟩ := hrel
      have hbw : Below w.heap.size w (w.alloc (.cells #[.bool false, .string ⟨#[]⟩, .int .i64 0] 81)) := (Below.refl _ w).alloc (Nat.le_refl _) _
      have ha9 : acc < 100000000 := Nat.lt_of_lt_of_le hacc (Nat.pow_le_pow_right (by decide) (by omega : k - 1 ≤ 8))
      have HAC := Lib.hid hacc
      have HBW := Lib.hid hbw
      clear hacc hbw
      by_cases hlt : k < s.size
      case neg =>
        have HF : Hid (stepV (stepR (L s)) = .tuple #[stpV (false, ⟨#[]⟩, 0), .int .i64 0]) := by
          have h2 := HR.out
          rw [L_drop_nil s k (by omega)] at h2
          have h3 : digR acc (9 - k) [] = (acc, 0) := by cases _h9 : 9 - k <;> rfl
          rw [h3] at h2
          unfold Hid
          rw [HX1.out, h2, if_pos]
          · rfl
          · right
            simp only []
            rw [List.getElem?_eq_none (by rw [List.length_drop, L_len]; omega)]
            simp
        clear HX1 HR HAC
        go_wp2_with fail
        all_goals exact bodyPost_ret (v := .tuple #[.agg #[.bool false, .string ⟨#[]⟩, .int .i64 0], .int .i64 0]) (by simp [results, Tryz.results47, go_sem]) rfl ⟨by rw [HF.out]; rfl, HBW.out⟩
      by_cases hin : k < 9 ∧ dig s[k] = true
      · obtain ⟨hk9', hdg⟩ := hin
        have hdd : 48 ≤ s[k].toNat ∧ s[k].toNat ≤ 57 := by unfold dig at hdg; simpa using hdg
        obtain ⟨hd1, hd2⟩ := hdd
        have HF : Hid (digR 0 8 ((L s).drop 1) = ((digR (10 * acc + (s[k].toNat - 48)) (9 - (k + 1)) ((L s).drop (k + 1))).1, (digR (10 * acc + (s[k].toNat - 48)) (9 - (k + 1)) ((L s).drop (k + 1))).2 + (k + 1 - 1))) := by
          unfold Hid
          rw [HR.out, L_drop s k hlt, show 9 - k = (9 - (k + 1)) + 1 by omega, digR, if_pos hdg]
          simp only [Prod.mk.injEq, true_and]
          omega
        have HA2 : Hid (10 * acc + (s[k].toNat - 48) < 10 ^ (k + 1 - 1)) := by
          have h := HAC.out
          unfold Hid
          rw [show k + 1 - 1 = (k - 1) + 1 by omega, Nat.pow_succ]
          omega
        have HV : Hid ((10 * (acc : Int) + (s[k].toNat : Int) - 48) = ((10 * acc + (s[k].toNat - 48) : Nat) : Int)) := by unfold Hid; omega
        clear HX1 HR HAC hdg HBW
        go_wp2_with fail
        exact ⟨⟨k + 1, 10 * acc + (s[k].toNat - 48), by omega, by omega, by omega, rfl, by rw [HV.out], HA2.out, HF, trivial⟩, by simp [intOf]; omega⟩
      have hno : 9 ≤ (k : Int) ∨ (s[k].toNat : Int) < 48 ∨ 57 < (s[k].toNat : Int) := by
        by_cases h9 : k < 9
        · right
          have hdg : ¬ dig s[k] = true := fun h => hin ⟨h9, h⟩
          unfold dig at hdg
          simp at hdg
          omega
        · left; omega
      have HX2 : Hid (stepR (L s) = if k = 1 ∨ s[k] ≠ 93 then none else some ((true, ⟨#[]⟩, (acc : Int)), k + 1)) := by
        have h2 := HR.out
        have h3 : digR acc (9 - k) ((L s).drop k) = (acc, 0) := by
          by_cases h9 : k < 9
          · have hdg : ¬ dig s[k] = true := fun h => hin ⟨h9, h⟩
            rw [L_drop s k hlt, show 9 - k = (9 - (k + 1)) + 1 by omega, digR, if_neg hdg]
          · rw [show 9 - k = 0 by omega, digR]
        rw [h3] at h2
        have h4 : ((L s).drop 1)[0 + (k - 1)]? = some s[k] := by
          rw [List.getElem?_drop, L_at, show 1 + (0 + (k - 1)) = k by omega, dif_pos hlt]
        unfold Hid
        rw [HX1.out, h2]
        simp only []
        rw [h4]
        by_cases hc : k = 1 ∨ s[k] ≠ 93
        · rw [if_pos hc, if_pos]
          rcases hc with hc | hc
          · left; omega
          · right; intro h; exact hc (Option.some.inj h)
        · rw [if_neg hc, if_neg]
          · rw [show 0 + (k - 1) + 2 = k + 1 by omega]
          · rw [not_or] at hc ⊢
            exact ⟨by omega, fun h => h (congrArg some (Classical.not_not.1 hc.2))⟩
      clear HX1 HR HAC hin
      by_cases hk0 : k = 1
      · have HF : Hid (stepV (stepR (L s)) = .tuple #[stpV (false, ⟨#[]⟩, 0), .int .i64 0]) := by
          unfold Hid
          rw [HX2.out, if_pos (.inl hk0)]
          rfl
        have ek : ((k : Int) == 1) = true := beq_iff_eq.2 (by omega)
        clear HX2 hk0
        go_wp2_with fail
        all_goals first
          | omega
          | exact bodyPost_ret (v := .tuple #[.agg #[.bool false, .string ⟨#[]⟩, .int .i64 0], .int .i64 0]) (by simp [results, Tryz.results47, go_sem]) rfl ⟨by rw [HF.out]; rfl, HBW.out⟩
      have ek : ((k : Int) == 1) = false := beq_eq_false_iff_ne.2 (by omega)
      by_cases c2 : s[k].toNat = 93
      case neg =>
        have e2 : ((s[k].toNat : Int) != 93) = true := bneQ _ _ (by omega)
        have HF : Hid (stepV (stepR (L s)) = .tuple #[stpV (false, ⟨#[]⟩, 0), .int .i64 0]) := by
          unfold Hid
          rw [HX2.out, if_pos (.inr (fun h => c2 (by rw [h]; rfl)))]
          rfl
        clear HX2 c2
        go_wp2_with fail
        all_goals first
          | omega
          | exact bodyPost_ret (v := .tuple #[.agg #[.bool false, .string ⟨#[]⟩, .int .i64 0], .int .i64 0]) (by simp [results, Tryz.results47, go_sem]) rfl ⟨by rw [HF.out]; rfl, HBW.out⟩
      have e2 : ((s[k].toNat : Int) != 93) = false := bneF _ _ (by omega)
      have HF : Hid (stepV (stepR (L s)) = .tuple #[.agg #[.bool true, .string ⟨#[]⟩, .int .i64 acc], .int .i64 (k + 1 : Nat)]) := by
        unfold Hid
        rw [HX2.out, if_neg]
        · rfl
        · rw [not_or]
          exact ⟨hk0, fun h => h (u8_of c2)⟩
      have c3 : ¬ (s[k].toNat : Int) ≤ 57 := by omega
      have c4 : (48 : Int) ≤ s[k].toNat := by omega
      have HAT := Lib.hid (AtR_any (acc : Int))
      clear HX2 c2 hno
      go_wp2_with fail
      all_goals
        refine (HAT.out _).mono ?_
        rintro e w1 ⟨rfl, hb1⟩
        obtain ⟨⟨hc0, hc1, hc2⟩, hf0, hf1, hf2⟩ := res_cells hb1
        have hbw3 := ((((HBW.out).trans (hb1.mono (HBW.out).size)).setCell (p := ⟨w.heap.size, 0, none⟩) (Nat.le_refl _) (.bool true)).setCell (p := ⟨w.heap.size, 1, none⟩) (Nat.le_refl _) (.string ⟨#[]⟩)).setCell (p := ⟨w.heap.size, 2, none⟩) (Nat.le_refl _) (.int .i64 acc)
        obtain ⟨g0, g1, g2⟩ := set3 w1 w.heap.size hc0 hc1 hc2 (.bool true) (.string ⟨#[]⟩) (.int .i64 acc)
        have HB3 := Lib.hid hbw3
        have HG := Lib.hid (And.intro g0 (And.intro g1 g2))
        clear hbw3 g0 g1 g2
        go_wp2_with fail
        exact bodyPost_ret (v := .tuple #[.agg #[.bool true, .string ⟨#[]⟩, .int .i64 acc], .int .i64 (k + 1)]) (by simp [results, Tryz.results47, go_sem, (HG.out).1, (HG.out).2.1, (HG.out).2.2]) rfl ⟨by rw [HF.out]; rfl, HB3.out⟩
  have e1 : ((s[0].toNat : Int) == 91) = false := beqNB _ _ (by omega)
  have HBW : Hid (Below w.heap.size w (w.alloc (.cells #[.bool false, .string ⟨#[]⟩, .int .i64 0] 81))) := (Below.refl _ w).alloc (Nat.le_refl _) _
  have HX1 : Hid (stepR (L s) = if s[0].toNat ≠ 46 ∨ (L s).drop 1 = [] then none else if ((L s).drop 1).head? = some 34 then qstep (quoF ((L s).drop 1).length (((L s).drop 1).drop 1)) else some (((false, ⟨(((L s).drop 1).take (nmL ((L s).drop 1))).toArray⟩, 0) : St), nmL ((L s).drop 1) + 1)) := by
    unfold Hid; rw [HX.out, if_neg c1]; rfl
  clear HX c1 hd
  by_cases c2 : s[0].toNat = 46
  case neg =>
    have e2 : ((s[0].toNat : Int) != 46) = true := bneQ _ _ (by omega)
    have HF : Hid (stepV (stepR (L s)) = .tuple #[stpV (false, ⟨#[]⟩, 0), .int .i64 0]) := by
      unfold Hid
      rw [HX1.out, if_pos (.inl c2)]
      rfl
    clear HX1 c2
    go_enter Tryz.func47, Tryz.ntmps47
    go_wp2_with fail
    exact bodyPost_ret (v := .tuple #[.agg #[.bool false, .string ⟨#[]⟩, .int .i64 0], .int .i64 0]) (by simp [results, Tryz.results47, go_sem]) rfl ⟨by rw [HF.out]; rfl, HBW.out⟩
  have e2 : ((s[0].toNat : Int) != 46) = false := bneF _ _ (by omega)
  by_cases h2 : 1 < s.size
  case neg =>
    have HF : Hid (stepV (stepR (L s)) = .tuple #[stpV (false, ⟨#[]⟩, 0), .int .i64 0]) := by
      unfold Hid
      rw [HX1.out, if_pos (.inr (L_drop_nil s 1 (by omega)))]
      rfl
    have h2' : (s.size : Int) < 2 := by omega
    clear HX1 c2 
    go_enter Tryz.func47, Tryz.ntmps47
    go_wp2_with fail
    exact bodyPost_ret (v := .tuple #[.agg #[.bool false, .string ⟨#[]⟩, .int .i64 0], .int .i64 0]) (by simp [results, Tryz.results47, go_sem]) rfl ⟨by rw [HF.out]; rfl, HBW.out⟩
  have h2' : ¬ (s.size : Int) < 2 := by omega
  have hd1 := L_drop s 1 h2
  have HX2 : Hid (stepR (L s) = if s[1].toNat = 34 then qstep (quoF (s.size - 1) ((L s).drop 2)) else some (((false, ⟨(((L s).drop 1).take (nmL ((L s).drop 1))).toArray⟩, 0) : St), nmL ((L s).drop 1) + 1)) := by
    unfold Hid
    rw [HX1.out, if_neg (by rw [not_or]; exact ⟨fun h => h c2, by rw [hd1]; simp⟩)]
    have hh : (((L s).drop 1).head? = some 34) = (s[1].toNat = 34) := by
      rw [hd1, List.head?_cons]
      apply propext
      constructor
      · intro h; rw [Option.some.inj h]; rfl
      · intro h; rw [u8_of h]; rfl
    rw [List.length_drop, L_len, List.drop_drop]
    simp only [hh]
  clear HX1 c2 hd1
  by_cases c3 : s[1].toNat = 34
  · have e3 : ((s[1].toNat : Int) == 34) = true := beqB _ _ (by omega)
    have hLx : L (s.extract 1 s.size) = (L s).drop 1 := L_from s 1
    have hxs : (s.extract 1 s.size).size = s.size - 1 := by rw [ByteArray.size_extract]; omega
    have hq : quoT (s.extract 1 s.size) = (quoF (s.size - 1) ((L s).drop 2)).map fun r => (r.1, r.2 + 1) := by
      unfold quoT; rw [hLx, hxs, List.drop_drop]
    have HC := Lib.hid (fun w' => quoted_any (s.extract 1 s.size) w' (by omega) (by omega))
    rw [hq] at HC
    have HX3 : Hid (stepR (L s) = qstep (quoF (s.size - 1) ((L s).drop 2))) := by unfold Hid; rw [HX2.out, if_pos c3]
    have hle := quoF_le (s.size - 1) ((L s).drop 2)
    rw [List.length_drop, L_len] at hle
    clear HX2 c3 hLx hxs hq
    generalize quoF (s.size - 1) ((L s).drop 2) = r at *
    cases r with
    | none =>
      have HC2 : Hid (∀ w', Calls Tryz.prog 68 #[.string (s.extract 1 s.size)] w' fun e w'' => e = .returned (.tuple #[.string ⟨#[]⟩, .int .i64 0]) ∧ Below w'.heap.size w' w'') := HC.out
      have HF : Hid (stepV (stepR (L s)) = .tuple #[stpV (false, ⟨#[]⟩, 0), .int .i64 0]) := by
        unfold Hid
        rw [HX3.out]
        rfl
      clear HC hle HX3
      go_enter Tryz.func47, Tryz.ntmps47
      go_wp2_with fail
      refine (HC2.out _).mono ?_
      rintro e w1 ⟨rfl, hb1⟩
      obtain ⟨⟨hc0, hc1, hc2⟩, hf0, hf1, hf2⟩ := res_cells hb1
      have hbw3 := ((((HBW.out).trans (hb1.mono (HBW.out).size)).setCell (p := ⟨w.heap.size, 0, none⟩) (Nat.le_refl _) (.bool false)).setCell (p := ⟨w.heap.size, 1, none⟩) (Nat.le_refl _) (.string ⟨#[]⟩)).setCell (p := ⟨w.heap.size, 2, none⟩) (Nat.le_refl _) (.int .i64 0)
      obtain ⟨g0, g1, g2⟩ := set3 w1 w.heap.size hc0 hc1 hc2 (.bool false) (.string ⟨#[]⟩) (.int .i64 0)
      have HB3 := Lib.hid hbw3
      have HG := Lib.hid (And.intro g0 (And.intro g1 g2))
      clear hbw3 g0 g1 g2
      go_wp2_with fail
      exact bodyPost_ret (v := .tuple #[.agg #[.bool false, .string ⟨#[]⟩, .int .i64 0], .int .i64 0]) (by simp [results, Tryz.results47, go_sem, (HG.out).1, (HG.out).2.1, (HG.out).2.2]) rfl ⟨by rw [HF.out]; rfl, HB3.out⟩
    | some r =>
      have hr2 := hle r rfl
      have HC2 : Hid (∀ w', Calls Tryz.prog 68 #[.string (s.extract 1 s.size)] w' fun e w'' => e = .returned (.tuple #[.string ⟨r.1.toArray⟩, .int .i64 ((r.2 + 1 : Nat) : Int)]) ∧ Below w'.heap.size w' w'') := HC.out
      have HF : Hid (stepV (stepR (L s)) = .tuple #[stpV (false, ⟨r.1.toArray⟩, 0), .int .i64 ((r.2 + 2 : Nat) : Int)]) := by
        unfold Hid
        rw [HX3.out]
        rfl
      clear HC hle HX3
      obtain ⟨kb, hkb⟩ : ∃ kb : ByteArray, kb = ⟨r.1.toArray⟩ := ⟨_, rfl⟩
      rw [← hkb] at HF HC2
      obtain ⟨n, hn⟩ : ∃ n, n = r.2 := ⟨_, rfl⟩
      rw [← hn] at HF HC2 hr2
      clear hkb hn
      have hn0 : (((n + 1 : Nat) : Int) == 0) = false := beq_eq_false_iff_ne.2 (by omega)
      go_enter Tryz.func47, Tryz.ntmps47
      go_wp2_with fail
      refine (HC2.out _).mono ?_
      rintro e w1 ⟨rfl, hb1⟩
      go_wp2_with fail
      refine (KeyR_any kb w1).mono ?_
      rintro e w2 ⟨rfl, hb2⟩
      have hb12 := hb1.trans (hb2.mono hb1.size)
      clear hb1 hb2
      obtain ⟨⟨hc0, hc1, hc2⟩, hf0, hf1, hf2⟩ := res_cells hb12
      have hbw3 := ((((HBW.out).trans (hb12.mono (HBW.out).size)).setCell (p := ⟨w.heap.size, 0, none⟩) (Nat.le_refl _) (.bool false)).setCell (p := ⟨w.heap.size, 1, none⟩) (Nat.le_refl _) (.string kb)).setCell (p := ⟨w.heap.size, 2, none⟩) (Nat.le_refl _) (.int .i64 0)
      obtain ⟨g0, g1, g2⟩ := set3 w2 w.heap.size hc0 hc1 hc2 (.bool false) (.string kb) (.int .i64 0)
      have HB3 := Lib.hid hbw3
      have HG := Lib.hid (And.intro g0 (And.intro g1 g2))
      clear hbw3 g0 g1 g2
      go_wp2_with fail
      exact bodyPost_ret (v := .tuple #[.agg #[.bool false, .string kb, .int .i64 0], .int .i64 (n + 2)]) (by simp [results, Tryz.results47, go_sem, (HG.out).1, (HG.out).2.1, (HG.out).2.2] <;> omega) rfl ⟨by rw [HF.out]; rfl, HB3.out⟩
  have e3 : ((s[1].toNat : Int) == 34) = false := beqNB _ _ (by omega)
  have hle := nmL_le ((L s).drop 1)
  rw [List.length_drop, L_len] at hle
  obtain ⟨j, hj⟩ : ∃ j, j = nmL ((L s).drop 1) + 1 := ⟨_, rfl⟩
  have hjs : j ≤ s.size := by omega
  have HF : Hid (stepV (stepR (L s)) = .tuple #[stpV (false, s.extract 1 j, 0), .int .i64 (j : Int)]) := by
    unfold Hid
    rw [HX2.out, if_neg c3, ← hj]
    have : (⟨(((L s).drop 1).take (nmL ((L s).drop 1))).toArray⟩ : ByteArray) = s.extract 1 j := L_inj (by rw [L_extract, hj]; rfl)
    rw [this]
    rfl
  have HJ := Lib.hid hj
  clear HX2 c3 hj hle
  go_enter Tryz.func47, Tryz.ntmps47
  go_wp2_with fail
  go_loopw [8] (fun i wr => ∃ k : Nat, 1 ≤ k ∧ k ≤ s.size ∧ i = .int .i64 k ∧ Hid (j = k + nmL ((L s).drop k)) ∧ wr = w.alloc (.cells #[.bool false, .string ⟨#[]⟩, .int .i64 0] 81)) (fun i _ => s.size - (intOf i).toNat)
  case atStart => exact ⟨1, by omega, by omega, rfl, by unfold Hid; rw [HJ.out]; omega, rfl⟩
  case round =>
    obtain ⟨k, hk1, hk, rfl, HR, rfl⟩ := hrel
    by_cases hlt : k < s.size
    · cases hl : ltr s[k]
      · have hjk : j = k := by
          rw [HR.out, L_drop s k hlt, nmL, show (nmc s[k] || dig s[k]) = ltr s[k] from rfl, hl]
          rfl
        subst hjk
        clear HR HJ
        go_wp2_with ((with_reducible refine (letter8_any _ _).mono ?_); rintro e w' ⟨rfl, rfl⟩)
        all_goals
          refine (KeyR_any (s.extract 1 j) _).mono ?_
          rintro e w2 ⟨rfl, hb12⟩
          obtain ⟨⟨hc0, hc1, hc2⟩, hf0, hf1, hf2⟩ := res_cells hb12
          have hbw3 := ((((HBW.out).trans (hb12.mono (HBW.out).size)).setCell (p := ⟨w.heap.size, 0, none⟩) (Nat.le_refl _) (.bool false)).setCell (p := ⟨w.heap.size, 1, none⟩) (Nat.le_refl _) (.string (s.extract 1 j))).setCell (p := ⟨w.heap.size, 2, none⟩) (Nat.le_refl _) (.int .i64 0)
          obtain ⟨g0, g1, g2⟩ := set3 w2 w.heap.size hc0 hc1 hc2 (.bool false) (.string (s.extract 1 j)) (.int .i64 0)
          have HB3 := Lib.hid hbw3
          have HG := Lib.hid (And.intro g0 (And.intro g1 g2))
          clear hbw3 g0 g1 g2
          go_wp2_with fail
          exact bodyPost_ret (v := .tuple #[.agg #[.bool false, .string (s.extract 1 j), .int .i64 0], .int .i64 j]) (by simp [results, Tryz.results47, go_sem, (HG.out).1, (HG.out).2.1, (HG.out).2.2]) rfl ⟨by rw [HF.out]; rfl, HB3.out⟩
      · have HF2 : Hid (j = (k + 1) + nmL ((L s).drop (k + 1))) := by
          unfold Hid
          rw [HR.out, L_drop s k hlt, nmL, show (nmc s[k] || dig s[k]) = ltr s[k] from rfl, hl, if_pos rfl]
          omega
        clear HR HJ
        go_wp2_with ((with_reducible refine (letter8_any _ _).mono ?_); rintro e w' ⟨rfl, rfl⟩)
        exact ⟨⟨k + 1, by omega, by omega, rfl, HF2, trivial⟩, by simp [intOf]; omega⟩
    · have hjk : j = k := by
        rw [HR.out, L_drop_nil s k (by omega)]
        rfl
      subst hjk
      clear HR HJ
      go_wp2_with fail
      all_goals
        refine (KeyR_any (s.extract 1 j) _).mono ?_
        rintro e w2 ⟨rfl, hb12⟩
        obtain ⟨⟨hc0, hc1, hc2⟩, hf0, hf1, hf2⟩ := res_cells hb12
        have hbw3 := ((((HBW.out).trans (hb12.mono (HBW.out).size)).setCell (p := ⟨w.heap.size, 0, none⟩) (Nat.le_refl _) (.bool false)).setCell (p := ⟨w.heap.size, 1, none⟩) (Nat.le_refl _) (.string (s.extract 1 j))).setCell (p := ⟨w.heap.size, 2, none⟩) (Nat.le_refl _) (.int .i64 0)
        obtain ⟨g0, g1, g2⟩ := set3 w2 w.heap.size hc0 hc1 hc2 (.bool false) (.string (s.extract 1 j)) (.int .i64 0)
        have HB3 := Lib.hid hbw3
        have HG := Lib.hid (And.intro g0 (And.intro g1 g2))
        clear hbw3 g0 g1 g2
        go_wp2_with fail
        exact bodyPost_ret (v := .tuple #[.agg #[.bool false, .string (s.extract 1 j), .int .i64 0], .int .i64 j]) (by simp [results, Tryz.results47, go_sem, (HG.out).1, (HG.out).2.1, (HG.out).2.2]) rfl ⟨by rw [HF.out]; rfl, HB3.out⟩
end Go.Proofs.YtemiihkmpojpgaaGreatDoor

namespace Go.Proofs.YtemiihkmpojpgaaGreatDoor
open Go.RowKit Go.Shelf
set_option maxHeartbeats 2000000
set_option maxRecDepth 100000

theorem own_formP {w : World} {base : Nat} {e : TypeId} {size : Nat} {v : Value} {n : Nat} {xs : List Value} (h : w.ownsRow base e size v n xs) : ∃ A cap, v = .slice A n cap := by
  rcases h.2 with ⟨rfl, h0⟩ | ⟨g, cap, cur, rfl, -⟩
  · exact ⟨none, 0, by rw [h0]⟩
  · exact ⟨_, cap, rfl⟩
theorem stepR_le (l : List UInt8) (r : St × Nat) (h : stepR l = some r) : 1 ≤ r.2 ∧ r.2 ≤ l.length := by
  rcases l with _ | ⟨c, t⟩
  · cases h
  rw [stepR_cons] at h
  have hd := (digR_le 8 0 t).1
  split at h
  · split at h
    · cases h
    · rename_i hn
      rw [not_or] at hn
      have h2 := Classical.not_not.1 hn.2
      rw [List.getElem?_eq_some_iff] at h2
      obtain ⟨h2, _⟩ := h2
      cases h
      simp only [List.length_cons]
      omega
  split at h
  · cases h
  split at h
  · split at h
    · rename_i x hq
      have := quoF_le _ _ _ hq
      rw [List.length_drop] at this
      cases h
      simp only [List.length_cons]
      rename_i h3 _
      have : 1 ≤ t.length := by
        rcases t with _ | ⟨b, t⟩
        · cases h3
        · simp
      omega
    · cases h
  · have := nmL_le t
    cases h
    simp only [List.length_cons]
    omega
theorem RParse_any (s : ByteArray) (w : World) (hs : s.size ≤ 1000000000) :
    Calls Tryz.prog 26 #[.string s] w (ParPost w (parseL (L s))) := by
  rw [← parse_same]
  have HC := Lib.hid (fun w' => Valid3_any s w' (by omega))
  by_cases hb : badL (L s) = (L s).length
  case neg =>
    have hv : validL (L s) = false := decide_eq_false hb
    have HF : Hid (parseR (L s) = ([], 5)) := by unfold Hid parseR; rw [if_pos hb]
    rw [hv] at HC
    clear hb hv
    go_enter Tryz.func26, Tryz.ntmps26
    go_wp2_with fail
    refine (HC.out _).mono ?_
    rintro e w1 ⟨rfl, hb1⟩
    go_wp2_with fail
    go_ret2
    exact ParPost_none HF.out hb1
  have hv : validL (L s) = true := decide_eq_true hb
  rw [hv] at HC
  by_cases h46 : L s = [46]
  · have e46 : (s.toList == [46]) = true := by rw [beq46]; exact decide_eq_true h46
    have HF : Hid (parseR (L s) = ([], 0)) := by unfold Hid parseR; rw [if_neg (by omega), if_pos h46]
    clear hb hv h46
    go_enter Tryz.func26, Tryz.ntmps26
    go_wp2_with fail
    refine (HC.out _).mono ?_
    rintro e w1 ⟨rfl, hb1⟩
    go_wp2_with fail
    go_ret2
    exact ParPost_none HF.out hb1
  have e46 : (s.toList == [46]) = false := by rw [beq46]; exact decide_eq_false h46
  have HF : Hid (parseR (L s) = acceptR (L s) (loopR 49 0 (strip (L s)))) := by unfold Hid parseR; rw [if_neg (by omega), if_neg h46]
  clear hb hv h46
  obtain ⟨r0, hr0⟩ : ∃ r0 : ByteArray, L r0 = strip (L s) := ⟨⟨(strip (L s)).toArray⟩, rfl⟩
  have HR0 := Lib.hid hr0
  have hr0s : r0.size ≤ s.size := by
    have h := congrArg List.length hr0
    have h2 : (strip (L s)).length ≤ (L s).length := by unfold strip; split <;> simp
    rw [L_len] at h h2
    omega
  have t2 : ∀ h : 1 < s.size, (L s).take 2 = [s[0], s[1]] := by
    intro h
    rw [L_take_succ s 1 h, L_take_succ s 0 (by omega)]
    rfl
  obtain ⟨B, hB⟩ : ∃ B, decide ((L s).take 2 = [46, 91]) = B := ⟨_, rfl⟩
  have hr0e : r0 = if B then s.extract 1 s.size else s := by
    refine L_inj ?_
    rw [hr0]
    unfold strip
    cases B
    · rw [if_neg (of_decide_eq_false hB)]; rfl
    · rw [if_pos (of_decide_eq_true hB)]; exact (L_from s 1).symm
  have HN : Hid (s.size ≤ 1 → B = false) := by
    intro h
    rw [← hB, decide_eq_false_iff_not]
    intro h3
    have := congrArg List.length h3
    rw [List.length_take, L_len] at this
    simp at this
    omega
  have H0 : Hid (∀ h : 1 < s.size, s[0].toNat ≠ 46 → B = false) := by
    intro h h2
    rw [← hB, decide_eq_false_iff_not, t2 h]
    intro h3
    simp only [List.cons.injEq] at h3
    exact h2 (by rw [h3.1]; rfl)
  have H1 : Hid (∀ h : 1 < s.size, s[0].toNat = 46 → ((s[1].toNat : Int) == 91) = B) := by
    intro h h2
    rw [← hB, t2 h, u8_of h2]
    by_cases h3 : s[1].toNat = 91
    · rw [u8_of h3]; rfl
    · rw [decide_eq_false, beqNB _ _ (by omega)]
      intro h4
      simp only [List.cons.injEq] at h4
      exact h3 (by rw [h4.2.1]; rfl)
  have HB1 : Hid (B = true → 1 < s.size) := by
    intro h
    rw [h] at hB
    have := congrArg List.length (of_decide_eq_true hB)
    rw [List.length_take, L_len] at this
    simp at this
    omega
  clear hB
  clear t2 hr0
  go_enter Tryz.func26, Tryz.ntmps26
  go_wp2_with fail
  refine (HC.out _).mono ?_
  rintro e w1 ⟨rfl, hb1⟩
  go_upto_region 7 with fail
  go_cut [26] (fun v wx => v = .bool B ∧ w1 = wx)
  case first =>
    go_wp2_with fail
    all_goals
      go_meet
      refine ⟨congrArg Value.bool ?_, rfl⟩
      first
        | exact (HN.out (by omega)).symm
        | exact H1.out (by omega) (by omega)
        | exact (H0.out (by omega) (by omega)).symm
  case rest =>
    obtain ⟨rfl, rfl⟩ := hcut
    clear HN H0 H1
    go_upto_if 26 with fail
    go_cut [5] (fun v wx => v = .string r0 ∧ w1 = wx)
    case first =>
      cases B
      · simp only [Bool.false_eq_true, if_false] at hr0e
        go_wp2_with fail
        go_meet
        exact ⟨by rw [hr0e], rfl⟩
      · simp only [if_true] at hr0e
        have h1s := HB1.out rfl
        go_wp2_with fail
        go_meet
        exact ⟨by rw [hr0e], rfl⟩
    case rest =>
      obtain ⟨rfl, rfl⟩ := hcut
      clear hr0e HB1
      go_wp2_with fail
      go_loopw [4, 5, 6, 7] (fun o re _ _ wr => ∃ (k : Nat) (r : ByteArray) (acc : List St), k ≤ 48 ∧ acc.length = k ∧ re = .string r ∧ r.size ≤ 1000000000 ∧ wr.ownsRow w.heap.size 81 3 o k (acc.flatMap stk) ∧ Hid (loopR 49 0 (strip (L s)) = (loopR (49 - k) k (L r)).map fun p => acc ++ p) ∧ Below w.heap.size w wr) (fun _ re _ _ _ => match re with | .string r => r.size | _ => 0)
      case atStart =>
        refine ⟨0, r0, [], by omega, rfl, rfl, by omega, World.ownsRow_nil _ _ _ _, ?_, hb1⟩
        unfold Hid; rw [HR0.out]; simp
      case round =>
        clear HR0
        obtain ⟨k, r, acc, hk, hal, rfl, hrs, hown, HLR, hbw⟩ := hrel
        obtain ⟨A, cap, rfl⟩ := own_formP hown
        have hz := hbw.size
        by_cases h0 : r.size = 0
        · have HX : Hid (parseR (L s) = acceptR (L s) (some acc)) := by
            have h2 : L r = [] := List.length_eq_zero_iff.1 (by rw [L_len]; exact h0)
            unfold Hid
            rw [HF.out, HLR.out, h2, show 49 - k = (48 - k) + 1 by omega, loopR, if_pos rfl]
            simp
          have e0 : ¬ (0 : Int) < r.size := by omega
          have hown' : wr.ownsRow w.heap.size 81 3 (.slice A k cap) acc.length (acc.flatMap stk) := by rw [hal]; exact hown
          have HO := Lib.hid hown'
          have HRD := Lib.hid (Rd.of_own hown')
          have HRV := Lib.hid (RValid_any _ acc wr HRD.out)
          clear hown hown' HLR HF h0
          cases hva : validP acc with
          | false =>
            rw [hva] at HRV
            have HF2 : Hid (parseR (L s) = ([], 3)) := by
              unfold Hid
              rw [HX.out]
              unfold acceptR
              simp [hva]
            clear HX hva
            go_wp2_with fail
            refine (HRV.out).mono ?_
            rintro e w2 ⟨rfl, hb2⟩
            go_wp2_with fail
            go_ret2
            exact ParPost_none HF2.out (hbw.trans (hb2.mono hz))
          | true =>
            rw [hva] at HRV
            have HTX := Lib.hid (fun w' (h : Rd w' (.slice A k cap) acc) => RText_any _ acc w' h hva)
            obtain ⟨T, hT⟩ : ∃ T : ByteArray, T = ⟨(textL acc).toArray⟩ := ⟨_, rfl⟩
            rw [← hT] at HTX
            have hLT : L T = textL acc := by rw [hT]; rfl
            have HX2 : Hid (parseR (L s) = if L T = L s then (acc, 0) else ([], 3)) := by
              unfold Hid
              rw [HX.out, hLT]
              simp only [acceptR, hva, true_and]
            clear HX hva hT hLT
            cases hB : (T.toList == s.toList) with
            | true =>
              have HF2 : Hid (parseR (L s) = (acc, 0)) := by
                unfold Hid
                rw [HX2.out, if_pos]
                rw [beq_iff_eq, toList_L, toList_L] at hB
                exact hB
              clear HX2
              go_wp2_with fail
              refine (HRV.out).mono ?_
              rintro e w2 ⟨rfl, hb2⟩
              go_wp2_with fail
              refine (HTX.out w2 (HRD.out.below hb2)).mono ?_
              rintro e w3 ⟨rfl, hb3⟩
              have hb23 := hb2.trans (hb3.mono hb2.size)
              have hown3 := own_below HO.out hb23
              have hbw3 := hbw.trans (hb23.mono hz)
              have HFI : Hid (ParPost w (parseR (L s)) (.returned (.tuple #[.slice A k cap, .int .i64 0])) w3) := by
                unfold Hid ParPost
                rw [HF2.out]
                exact ⟨_, rfl, hown3, hbw3⟩
              clear hown3 hbw3 hb2 hb3 hb23 HF2
              go_wp2_with fail
              go_ret2
              exact HFI.out
            | false =>
              have HF2 : Hid (parseR (L s) = ([], 3)) := by
                unfold Hid
                rw [HX2.out, if_neg]
                intro h
                rw [toList_L, toList_L, h] at hB
                simp at hB
              clear HX2
              go_wp2_with fail
              refine (HRV.out).mono ?_
              rintro e w2 ⟨rfl, hb2⟩
              go_wp2_with fail
              refine (HTX.out w2 (HRD.out.below hb2)).mono ?_
              rintro e w3 ⟨rfl, hb3⟩
              have hb23 := hb2.trans (hb3.mono hb2.size)
              have hbw3 := hbw.trans (hb23.mono hz)
              clear hb2 hb3 hb23
              go_wp2_with fail
              go_ret2
              exact ParPost_none HF2.out hbw3
        · have e0 : (0 : Int) < r.size := by omega
          have hne : ¬ L r = [] := fun h => h0 (by rw [← L_len, h]; rfl)
          have HL2 : Hid (∀ o, stepR (L r) = o → loopR 49 0 (strip (L s)) = (match o with
            | some x => if 48 ≤ k then none else (loopR (49 - (k + 1)) (k + 1) ((L r).drop x.2)).map fun p => x.1 :: p
            | none => none).map fun p => acc ++ p) := by
            intro o ho
            rw [HLR.out, show 49 - k = (49 - (k + 1)) + 1 by omega, loopR, if_neg hne, ho]
            all_goals (cases o <;> rfl)
          have HS := Lib.hid (fun w' => step_any r w' (by omega) (by omega))
          have hle := stepR_le (L r)
          rw [L_len] at hle
          clear HLR hne h0
          cases hst : stepR (L r) with
          | none =>
            rw [hst] at HS
            have HS2 : Hid (∀ w', Calls Tryz.prog 47 #[.string r] w' fun e w'' => e = .returned (.tuple #[.agg #[.bool false, .string ⟨#[]⟩, .int .i64 0], .int .i64 0]) ∧ Below w'.heap.size w' w'') := HS.out
            have HF2 : Hid (parseR (L s) = ([], 3)) := by
              unfold Hid
              rw [HF.out, HL2.out _ hst]
              rfl
            clear HS HL2 hst hle HF hown
            go_wp2_with fail
            refine (HS2.out _).mono ?_
            rintro e w2 ⟨rfl, hb2⟩
            have hbw2 := hbw.trans (hb2.mono hz)
            clear hb2
            go_wp2_with fail
            go_ret2
            exact ParPost_none HF2.out (hbw2.alloc hbw2.size _)
          | some x =>
            obtain ⟨⟨sb, sk, si⟩, n⟩ := x
            obtain ⟨hn1, hn2⟩ := hle _ hst
            simp only [] at hn1 hn2
            rw [hst] at HS
            have HS2 : Hid (∀ w', Calls Tryz.prog 47 #[.string r] w' fun e w'' => e = .returned (.tuple #[.agg #[.bool sb, .string sk, .int .i64 si], .int .i64 (n : Int)]) ∧ Below w'.heap.size w' w'') := HS.out
            have HL3 := Lib.hid (HL2.out _ hst)
            have en : ((n : Int) == 0) = false := beq_eq_false_iff_ne.2 (by omega)
            clear HS HL2 hst hle
            by_cases hk48 : 48 ≤ k
            · have HF2 : Hid (parseR (L s) = ([], 3)) := by
                unfold Hid
                rw [HF.out, HL3.out]
                simp only []
                rw [if_pos hk48]
                rfl
              have ek : (48 : Int) ≤ k := by omega
              clear HL3 HF hown hk48
              go_wp2_with fail
              refine (HS2.out _).mono ?_
              rintro e w2 ⟨rfl, hb2⟩
              have hbw2 := hbw.trans (hb2.mono hz)
              clear hb2
              go_wp2_with fail
              go_ret2
              exact ParPost_none HF2.out (hbw2.alloc hbw2.size _)
            · have HR2 : Hid (loopR 49 0 (strip (L s)) = (loopR (49 - (k + 1)) (k + 1) (L (r.extract n r.size))).map fun p => (acc ++ [(sb, sk, si)]) ++ p) := by
                unfold Hid
                rw [HL3.out, L_from]
                simp only []
                rw [if_neg hk48, Option.map_map]
                congr 1
                funext p
                simp
              have ek : ¬ (48 : Int) ≤ k := by omega
              have hrz : (r.extract n r.size).size = r.size - n := by rw [ByteArray.size_extract]; omega
              clear HL3 hk48
              go_wp2_with fail
              refine (HS2.out _).mono ?_
              rintro e w2 ⟨rfl, hb2⟩
              have hbw2 := hbw.trans (hb2.mono hz)
              have hown2 := own_below hown hb2
              have hz2 := hbw2.size
              clear hb2 hown
              go_wp2_with (at_builtin; refine wp_pushG elem_step rfl _ _ rfl (hown2.alloc _) (stk (sb, sk, si)) rfl (stk_one _) rfl (w2.heap.size + 1) (by simp) rfl (by omega) (by simp; omega) ?_; intro v' w3 hown3 hg3 hb3)
              refine ⟨⟨k + 1, r.extract n r.size, acc ++ [(sb, sk, si)], by omega, by simp; omega, rfl, by omega, by rw [List.flatMap_append]; simpa using hown3, HR2, (hbw2.alloc hz2 _).trans hb3⟩, ?_⟩
              show (r.extract n r.size).size < r.size
              omega
end Go.Proofs.YtemiihkmpojpgaaGreatDoor
