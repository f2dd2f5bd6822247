/- path.Parse walked. Conditions: strings of at most 10^9 bytes; the variables of strconv and math/bits read as laid. -/
import Derived.Test.YtjbhjnelepbkcaaDoorPs5
namespace Go.Proofs.YtjbhjnelepbkcaaDoor
open Go.RowKit Go.Shelf
set_option maxHeartbeats 2000000
set_option maxRecDepth 100000

/-- A step's cells. -/
def stk (x : St) : List Value := [.bool x.1, .string x.2.1, .int .i64 x.2.2]
theorem stk_len (x : St) : (stk x).length = 3 := rfl
theorem stk_one (x : St) : ∀ u ∈ stk x, u.oneCell' = true := by
  intro u hu
  simp only [stk, List.mem_cons, List.mem_nil_iff, or_false] at hu
  rcases hu with rfl | rfl | rfl <;> rfl
theorem flat_get {α : Type} (f : α → List Value) (c : Nat) (hf : ∀ x, (f x).length = c) : ∀ (T : List α) (i : Nat) (hi : i < T.length) (j : Nat), j < c → (T.flatMap f)[i * c + j]? = (f T[i])[j]?
  | x :: T, 0, _, j, hj => by
    rw [List.flatMap_cons, List.getElem?_append_left (by rw [hf]; omega)]
    simp
  | x :: T, i + 1, hi, j, hj => by
    rw [List.flatMap_cons, List.getElem?_append_right (by rw [hf, Nat.succ_mul]; omega), hf]
    have := flat_get f c hf T i (by simpa using hi) j hj
    rw [show (i + 1) * c + j - c = i * c + j by rw [Nat.succ_mul]; omega]
    simpa using this
/-- A row of one's own reads as the path. -/
theorem Rd.of_own {w : World} {base : Nat} {e : TypeId} {v : Value} {l : List St} (h : w.ownsRow base e 3 v l.length (l.flatMap stk)) : Rd w v l := by
  rcases h.2 with ⟨rfl, h0⟩ | ⟨g, cap, cur, rfl, hb, hh, hn, hc, _⟩
  · obtain rfl : l = [] := List.length_eq_zero_iff.1 h0
    exact Rd.nil
  · refine ⟨some ⟨g, 0, none⟩, cap, rfl, hn, by omega, (fun h => by cases h), fun _ => ⟨g, 0, rfl, (h.lt g rfl).2, fun i hi => ?_⟩⟩
    refine ⟨?_, ?_, ?_⟩
    · rw [Nat.zero_add, World.ownsRow.cellAt h (i * 3) (by omega)]
      exact flat_get stk 3 stk_len l i hi 0 (by decide)
    · rw [Nat.zero_add, World.ownsRow.cellAt h (i * 3 + 1) (by omega)]
      exact flat_get stk 3 stk_len l i hi 1 (by decide)
    · rw [Nat.zero_add, World.ownsRow.cellAt h (i * 3 + 2) (by omega)]
      exact flat_get stk 3 stk_len l i hi 2 (by decide)
theorem elem_step : Elem Tryd.prog 22 26 3 := elem_of (z := .agg #[.bool false, .string ⟨#[]⟩, .int .i64 0]) (bytes := 32) Tryd.underlying22 (by kernel_rfl) (by decide) (by decide) rfl
/-- What Parse hands back. -/
def ParPost (w : World) (x : List St × Nat) (e : Ending) (w' : World) : Prop :=
  ∃ v, e = .returned (.tuple #[v, .int .i64 (x.2 : Int)]) ∧ w'.ownsRow w.heap.size 26 3 v x.1.length (x.1.flatMap stk) ∧ Below w.heap.size w w'
theorem ParPost_none {w w' : World} {x : List St × Nat} {a : Nat} (h : x = ([], a)) (hb : Below w.heap.size w w') :
    ParPost w x (.returned (.tuple #[.slice none 0 0, .int .i64 a])) w' := by
  subst h
  exact ⟨_, rfl, World.ownsRow_nil _ _ _ _, hb⟩
def restN (w : World) (R : Nat) : Nat := match w.cell? ⟨R, 0, none⟩ with
  | some (.string r) => r.size
  | _ => 0
theorem beq46 (s : ByteArray) : (s.toList == [46]) = decide (L s = [46]) := by
  rw [toList_L]
  by_cases h : L s = [46]
  · rw [h]; rfl
  · rw [decide_eq_false h, beq_eq_false_iff_ne]; exact h
/-- The captured variable holds r. -/
def Var (w : World) (R : Nat) (r : ByteArray) : Prop := w.cell? ⟨R, 0, none⟩ = some (.string r) ∧ w.frozen? ⟨R, 0, none⟩ = false ∧ R < w.heap.size
theorem Var.set {w : World} {R : Nat} {r : ByteArray} (h : Var w R r) (t : ByteArray) : Var (w.setCell ⟨R, 0, none⟩ (.string t)) R t := by
  obtain ⟨h1, h2, h3⟩ := h
  exact ⟨World.cell?_setCell_same _ _ _ h1, by rw [World.frozen?_setCell]; exact h2, by rw [World.size_setCell]; exact h3⟩
theorem Var.below {w w' : World} {R B : Nat} {r : ByteArray} (h : Var w R r) (hb : Below B w w') (hR : R < B) : Var w' R r :=
  ⟨(hb.cell hR).trans h.1, (hb.frozen hR).trans h.2.1, Nat.lt_of_lt_of_le h.2.2 hb.size⟩
/-- The worlds part in that variable alone. -/
def SetR (R : Nat) (w w' : World) : Prop := ∃ t : ByteArray, w' = w.setCell ⟨R, 0, none⟩ (.string t)
theorem SetR.below {R B : Nat} {a w w' : World} (h : SetR R w w') (hb : Below B a w) (hR : B ≤ R) : Below B a w' := by
  obtain ⟨t, rfl⟩ := h
  exact hb.setCell (p := ⟨R, 0, none⟩) hR _
theorem SetR.own {R : Nat} {w w' : World} (h : SetR R w w') {base : Nat} {e : TypeId} {size : Nat} {v : Value} {n : Nat} {xs : List Value} (ho : w.ownsRow base e size v n xs) (hR : R < base) : w'.ownsRow base e size v n xs := by
  obtain ⟨t, rfl⟩ := h
  exact ownsRow_setCell_below ho (a := ⟨R, 0, none⟩) hR _
theorem SetR.size {R : Nat} {w w' : World} (h : SetR R w w') : w'.heap.size = w.heap.size := by
  obtain ⟨t, rfl⟩ := h
  exact World.size_setCell ..
theorem skip_any (n R : Nat) (r : ByteArray) (w : World) (hV : Var w R r) (hn : n ≤ r.size) :
    Calls Tryd.prog 35 #[.int .i64 n, .pointer (some ⟨R, 0, none⟩)] w fun e w' => e = .returned (.string (r.extract 0 n)) ∧ Var w' R (r.extract n r.size) ∧ SetR R w w' := by
  obtain ⟨hc, hf, hR⟩ := hV
  have HS := Lib.hid (Var.set (w := w) (R := R) (r := r) ⟨hc, hf, hR⟩ (r.extract n r.size))
  go_enter Tryd.func35, Tryd.ntmps35
  go_wp2_with fail
  go_ret
  exact ⟨rfl, HS.out, _, rfl⟩
theorem beq2 (s : ByteArray) (a b : UInt8) : ((s.extract 0 2).toList == [a, b]) = decide ((L s).take 2 = [a, b]) := by
  rw [toList_L, L_upto]
  by_cases h : (L s).take 2 = [a, b]
  · rw [h, decide_eq_true rfl]; simp
  · rw [decide_eq_false h, beq_eq_false_iff_ne]; exact h
theorem At_any (n : Int) (w : World) : Calls Tryd.prog 14 #[.int .i64 n] w fun e w' => e = .returned (.agg #[.bool true, .string ⟨#[]⟩, .int .i64 n]) ∧ Below w.heap.size w w' := by
  go_enter Tryd.func14, Tryd.ntmps14
  go_wp2_with fail
  exact bodyPost_ret (v := .agg #[.bool true, .string ⟨#[]⟩, .int .i64 n]) (by simp [results, Tryd.results14, go_sem]) rfl ⟨rfl, (Below.refl _ w).alloc (Nat.le_refl _) _⟩
theorem Key_any (t : ByteArray) (w : World) : Calls Tryd.prog 12 #[.string t] w fun e w' => e = .returned (.agg #[.bool false, .string t, .int .i64 0]) ∧ Below w.heap.size w w' := by
  go_enter Tryd.func12, Tryd.ntmps12
  go_wp2_with fail
  exact bodyPost_ret (v := .agg #[.bool false, .string t, .int .i64 0]) (by simp [results, Tryd.results12, go_sem]) rfl ⟨rfl, (Below.refl _ w).alloc (Nat.le_refl _) _⟩
theorem own_form {w : World} {base : Nat} {e : TypeId} {size : Nat} {v : Value} {n : Nat} {xs : List Value} (h : w.ownsRow base e size v n xs) : ∃ A cap, v = .slice A n cap := by
  rcases h.2 with ⟨rfl, h0⟩ | ⟨g, cap, cur, rfl, _⟩
  · subst h0; exact ⟨_, _, rfl⟩
  · exact ⟨_, _, rfl⟩
theorem head1 (r : ByteArray) (h : 0 < r.size) (b : UInt8) : ((r.extract 0 1).toList == [b]) = decide (r[0] = b) := by
  rw [toList_L, L_upto, L_take_succ r 0 h]
  by_cases hb : r[0] = b
  · rw [decide_eq_true hb, hb]; simp
  · rw [decide_eq_false hb, beq_eq_false_iff_ne]
    intro h'
    simp at h'
    exact hb h'
theorem unqF_le : ∀ (f : Nat) (l : List UInt8) (r : List UInt8 × Nat), unqF f l = some r → r.2 ≤ l.length
  | 0, _, _, h => by cases h
  | _ + 1, [], _, h => by cases h
  | f + 1, b :: t, r, h => by
    rw [unqF_cons] at h
    split at h
    · cases h; simp
    split at h
    · split at h
      · cases h
      · cases hu : unqF f (t.drop (escI t).2) with
        | none => rw [hu] at h; cases h
        | some x =>
          rw [hu] at h
          cases h
          have := unqF_le f _ x hu
          have := (escI_lt t).2
          simp only [List.length_drop] at *
          simp only [List.length_cons]
          omega
    · cases hu : unqF f t with
      | none => rw [hu] at h; cases h
      | some x =>
        rw [hu] at h
        cases h
        have := unqF_le f _ x hu
        simp only [List.length_cons]
        omega
theorem loopI_step (k : Nat) (l : List UInt8) (st : St) (l' : List UInt8) (acc : List St) (hk : k ≤ 48) (hl : l ≠ []) (h : stepI l = some (st, l')) :
    (loopI (49 - k) k l).map (fun p => acc ++ p) = (loopI (49 - (k + 1)) (k + 1) l').map (fun p => (acc ++ [st]) ++ p) := by
  rw [show 49 - k = (49 - (k + 1)) + 1 by omega, loopI, if_neg (by rintro (h | h); exact hl h; omega), h]
  simp only [Option.map_map]
  congr 1
  funext p
  simp
theorem loopI_bad (k : Nat) (l : List UInt8) (acc : List St) (hk : k ≤ 48) (hl : l ≠ []) (h : stepI l = none) : (loopI (49 - k) k l).map (fun p => acc ++ p) = none := by
  rw [show 49 - k = (49 - (k + 1)) + 1 by omega, loopI, if_neg (by rintro (h | h); exact hl h; omega), h]
  rfl
theorem loopI_end (k : Nat) (l : List UInt8) (acc : List St) (h : l = [] ∨ 48 < k) : (loopI (49 - k) k l).map (fun p => acc ++ p) = some acc := by
  by_cases hk : k ≤ 48
  · rw [show 49 - k = (49 - (k + 1)) + 1 by omega, loopI, if_pos h]; simp
  · rw [show 49 - k = 0 by omega, loopI]; simp
def stA (t : List UInt8) : Option (St × List UInt8) := if idx93 t = 0 ∨ 6 < idx93 t ∨ idx93 t = t.length then none else match Lib.atoi (t.take (idx93 t)) with
  | some i => some ((true, ⟨#[]⟩, i), t.drop (idx93 t + 1))
  | none => none
def stB (t : List UInt8) : Option (St × List UInt8) := match unqF t.length (t.drop 1) with
  | some r => some ((false, ⟨r.1.toArray⟩, 0), t.drop (r.2 + 1))
  | none => none
def stC (t : List UInt8) : Option (St × List UInt8) := if 0 < folL t then some ((false, ⟨(t.take (folL t)).toArray⟩, 0), t.drop (folL t)) else none
theorem step_cases (c : UInt8) (t : List UInt8) : stepI (c :: t) = if c.toNat = 91 then stA t else if c.toNat = 46 then (if t.head? = some 34 then stB t else stC t) else none := by
  rw [stepI_cons]
  by_cases h1 : c.toNat = 91
  · rw [if_pos h1, if_pos h1]; rfl
  rw [if_neg h1, if_neg h1]
  by_cases h2 : c.toNat = 46
  · rw [if_pos h2]
    by_cases h3 : t.head? = some 34
    · rw [if_pos ⟨h2, h3⟩, if_pos h3]; rfl
    · rw [if_neg (fun h => h3 h.2), if_neg h3]
      unfold stC
      by_cases h4 : 0 < folL t
      · rw [if_pos ⟨h2, h4⟩, if_pos h4]
      · rw [if_neg (fun h => h4 h.2), if_neg h4]
  · rw [if_neg h2, if_neg (fun h => h2 h.1), if_neg (fun h => h2 h.1)]
theorem stB_none (t : List UInt8) (h : unqF t.length (t.drop 1) = none) : stB t = none := by unfold stB; rw [h]
theorem stB_some (t : List UInt8) (r : List UInt8 × Nat) (h : unqF t.length (t.drop 1) = some r) : stB t = some ((false, ⟨r.1.toArray⟩, 0), t.drop (r.2 + 1)) := by unfold stB; rw [h]
theorem stA_none (t : List UInt8) (h : idx93 t = 0 ∨ 6 < idx93 t ∨ idx93 t = t.length) : stA t = none := by unfold stA; rw [if_pos h]
theorem stA_bad (t : List UInt8) (h : ¬ (idx93 t = 0 ∨ 6 < idx93 t ∨ idx93 t = t.length)) (h2 : Lib.atoi (t.take (idx93 t)) = none) : stA t = none := by unfold stA; rw [if_neg h, h2]
theorem stA_some (t : List UInt8) (i : Int) (h : ¬ (idx93 t = 0 ∨ 6 < idx93 t ∨ idx93 t = t.length)) (h2 : Lib.atoi (t.take (idx93 t)) = some i) : stA t = some ((true, ⟨#[]⟩, i), t.drop (idx93 t + 1)) := by unfold stA; rw [if_neg h, h2]
theorem Parse_any (s : ByteArray) (w : World) (hs : s.size ≤ 1000000000) (he : Env w) :
    Calls Tryd.prog 17 #[.string s] w (ParPost w (parseL (L s))) := by
  have HC := Lib.hid (fun w' => Valid_any s w' (by omega))
  by_cases hb : badL (L s) = (L s).length
  case neg =>
    have hv : validL (L s) = false := decide_eq_false hb
    have HF : Hid (parseL (L s) = ([], 5)) := by unfold Hid parseL; rw [if_pos hb]
    rw [hv] at HC
    clear hb hv
    go_enter Tryd.func17, Tryd.ntmps17
    go_wp2_with fail
    refine (HC.out _).mono ?_
    rintro e w1 ⟨rfl, rfl⟩
    go_wp2_with fail
    go_ret2
    exact ParPost_none HF.out (Below.refl _ _)
  have hv : validL (L s) = true := decide_eq_true hb
  rw [hv] at HC
  by_cases h46 : L s = [46]
  · have e46 : (s.toList == [46]) = true := by rw [beq46]; exact decide_eq_true h46
    have HF : Hid (parseL (L s) = ([], 0)) := by unfold Hid parseL; rw [if_neg (by omega), if_pos h46]
    clear hb hv h46
    go_enter Tryd.func17, Tryd.ntmps17
    go_wp2_with fail
    refine (HC.out _).mono ?_
    rintro e w1 ⟨rfl, rfl⟩
    go_wp2_with fail
    go_ret2
    exact ParPost_none HF.out (Below.refl _ _)
  have e46 : (s.toList == [46]) = false := by rw [beq46]; exact decide_eq_false h46
  have HF : Hid (parseL (L s) = accept (L s) (loopI 49 0 (strip (L s)))) := by unfold Hid parseL; rw [if_neg (by omega), if_neg h46]
  have HE := Lib.hid he
  clear hb hv he
  go_enter Tryd.func17, Tryd.ntmps17
  go_wp2_with fail
  refine (HC.out _).mono ?_
  rintro e w1 ⟨rfl, rfl⟩
  obtain ⟨B, hB⟩ : ∃ B, decide ((L s).take 2 = [46, 91]) = B := ⟨_, rfl⟩
  have hBr : ∃ r0 : ByteArray, L r0 = strip (L s) ∧ r0 = if B then s.extract 1 s.size else s := by
    refine ⟨if B then s.extract 1 s.size else s, ?_, rfl⟩
    unfold strip
    cases B
    · rw [if_neg (of_decide_eq_false hB)]; rfl
    · rw [if_pos (of_decide_eq_true hB)]; exact L_from s 1
  obtain ⟨r0, hr0, hr0e⟩ := hBr
  have HR0 := Lib.hid hr0
  have HB2 : Hid (((s.extract 0 2).toList == [46, 91]) = B) := by unfold Hid; rw [beq2]; exact hB
  have HB1 : Hid (B = true → 1 < s.size) := by
    unfold Hid
    intro h
    rw [h] at hB
    have := congrArg List.length (of_decide_eq_true hB)
    rw [List.length_take, L_len] at this
    simp at this
    omega
  clear hB hr0
  go_upto_region 7 with fail
  go_cut [27] (fun v wx => v = .bool B ∧ wx = w.alloc (.cells #[.string s] 9))
  case first =>
    go_wp2_with fail
    all_goals
      go_meet
      refine ⟨?_, rfl⟩
      first
        | (show Value.bool _ = _; rw [HB2.out])
        | (show Value.bool false = _
           cases B
           · rfl
           · have := HB1.out rfl; omega)
  case rest =>
    obtain ⟨rfl, rfl⟩ := hcut
    have hcell0 : (w.alloc (.cells #[.string s] 9)).cell? ⟨w.heap.size, 0, none⟩ = some (.string s) := by rw [cell_of_alloc]; rfl
    have hfz0 : (w.alloc (.cells #[.string s] 9)).frozen? ⟨w.heap.size, 0, none⟩ = false := by simp
    have hV0 : Var (w.alloc (.cells #[.string s] 9)) w.heap.size s := ⟨hcell0, hfz0, by simp⟩
    have HV0 := Lib.hid hV0
    have hbw0 : Below w.heap.size w (w.alloc (.cells #[.string s] 9)) := (Below.refl _ w).alloc (Nat.le_refl _) _
    have HBW0 := Lib.hid hbw0
    clear hbw0 hV0
    go_upto_if 27 with fail
    go_cut [] (fun wx => Var wx w.heap.size r0 ∧ Below w.heap.size w wx)
    case first =>
      cases B
      · simp only [Bool.false_eq_true, if_false] at hr0e
        subst hr0e
        go_wp2_with fail
        go_meet
        exact ⟨HV0.out, HBW0.out⟩
      · simp only [if_true] at hr0e
        have h1s := HB1.out rfl
        go_wp2_with fail
        refine (skip_any 1 _ s _ HV0.out (by omega)).mono ?_
        rintro e w1 ⟨rfl, hV1, hS1⟩
        have hbw1 := hS1.below HBW0.out (Nat.le_refl _)
        go_wp2_with fail
        go_meet
        rw [hr0e]
        exact ⟨hV1, hbw1⟩
    case rest =>
      obtain ⟨hVc, hbc⟩ := hcut
      have HVC := Lib.hid hVc
      have HBC := Lib.hid hbc
      clear hVc hbc HB1 HB2 hr0e hcell0 hfz0 HV0 HBW0
      have hR : w.heap.size < w.heap.size + 1 := Nat.lt_succ_self _
      go_wp2_with fail
      go_loopw [6, 7, 8, 9, 10, 11, 12] (fun o _ _ _ _ _ _ wr => ∃ (k : Nat) (r : ByteArray) (acc : List St), k ≤ 49 ∧ acc.length = k ∧ r.size ≤ 1000000000 ∧ Hid (Var wr w.heap.size r) ∧ wr.ownsRow (w.heap.size + 1) 26 3 o k (acc.flatMap stk) ∧ Hid (loopI 49 0 (strip (L s)) = (loopI (49 - k) k (L r)).map fun p => acc ++ p) ∧ Below w.heap.size w wr) (fun _ _ _ _ _ _ _ wr => restN wr w.heap.size)
      case atStart =>
        refine ⟨0, r0, [], by omega, rfl, ?_, HVC.out, World.ownsRow_nil _ _ _ _, ?_, HBC.out⟩
        · have h := congrArg List.length HR0.out
          have h2 : (strip (L s)).length ≤ (L s).length := by unfold strip; split <;> simp
          rw [L_len] at h h2
          omega
        · unfold Hid; rw [HR0.out]; simp
      case round =>
        clear HVC HBC HR0
        obtain ⟨k, r, acc, hk, hal, hrs, HV, hown, HLR, hbw⟩ := hrel
        obtain ⟨A, cap, rfl⟩ := own_form hown
        obtain ⟨hc0, hf0, hRw⟩ := HV.out
        have hz := hbw.size
        by_cases hex : r.size = 0 ∨ 48 < k
        · have HX : Hid (parseL (L s) = accept (L s) (some acc)) := by
            unfold Hid
            rw [HF.out, HLR.out, loopI_end k (L r) acc]
            rcases hex with h | h
            · exact .inl (List.length_eq_zero_iff.1 (by rw [L_len]; exact h))
            · exact .inr h
          have key : r.toList.isEmpty = true ∨ (r.toList.isEmpty = false ∧ 48 < k) := by
            by_cases h : r.size = 0
            · exact .inl (neE.2 h)
            · right
              exact ⟨by rw [Bool.eq_false_iff, ne_eq, neE]; exact h, by omega⟩
          have hown' : wr.ownsRow w.heap.size 26 3 (.slice A k cap) acc.length (acc.flatMap stk) := by rw [hal]; exact own_low hown (by omega)
          have HO := Lib.hid hown'
          have HRD := Lib.hid (Rd.of_own hown')
          clear hown hown' HLR HF hex
          by_cases hk0 : k = 0
          · have HF2 : Hid (parseL (L s) = ([], 3)) := by
              unfold Hid
              rw [HX.out]
              have : acc = [] := List.length_eq_zero_iff.1 (by omega)
              unfold accept
              simp [this]
            have hk0' : ((k : Int) == 0) = true := by rw [beq_iff_eq]; omega
            clear HX HO HRD
            rcases key with e1 | ⟨e1, e2⟩
            all_goals first
              | omega
              | (go_wp2_with fail
                 go_ret2
                 exact ParPost_none HF2.out hbw)
          have hk0' : ((k : Int) == 0) = false := by rw [beq_eq_false_iff_ne]; omega
          have HPV := Lib.hid (PValid_any (.slice A k cap) acc wr HRD.out)
          cases hv : validP acc
          · have HF2 : Hid (parseL (L s) = ([], 3)) := by unfold Hid; rw [HX.out]; unfold accept; simp [hv]
            rw [hv] at HPV
            clear HX HO HRD hv
            rcases key with e1 | ⟨e1, e2⟩
            all_goals
              go_wp2_with fail
              refine HPV.out.mono ?_
              rintro e w1 ⟨rfl, hb1⟩
              go_wp2_with fail
              go_ret2
              exact ParPost_none HF2.out (hbw.trans (hb1.mono hz))
          rw [hv] at HPV
          obtain ⟨T, hT⟩ : ∃ T : ByteArray, T = ⟨(textL acc).toArray⟩ := ⟨_, rfl⟩
          have hLT : L T = textL acc := by rw [hT]; rfl
          have HPT := Lib.hid (fun w' (hr : Rd w' (.slice A k cap) acc) (he : Env w') => PText_any (.slice A k cap) acc w' hr hv he)
          rw [← hT] at HPT
          by_cases heq : textL acc = L s
          · have HF2 : Hid (parseL (L s) = (acc, 0)) := by
              unfold Hid; rw [HX.out]; unfold accept
              simp only []
              rw [if_pos ⟨by intro h; rw [h] at hal; simp at hal; omega, hv, heq⟩]
            have eqs : (T.toList == s.toList) = true := by rw [toList_L, toList_L, hLT, heq]; simp
            clear HX hv heq hT hLT
            rcases key with e1 | ⟨e1, e2⟩
            all_goals
              go_wp2_with fail
              refine HPV.out.mono ?_
              rintro e w1 ⟨rfl, hb1⟩
              have hrd1 := (HRD.out).below hb1
              have hbw1 := hbw.trans (hb1.mono hz)
              have hen1 := (HE.out).below hbw1
              have hown1 := own_below HO.out hb1
              go_wp2_with fail
              refine (HPT.out _ hrd1 hen1).mono ?_
              rintro e w2 ⟨rfl, hb2⟩
              have hown2 := own_below hown1 hb2
              have hbw2 := hbw1.trans (hb2.mono hbw1.size)
              clear hown1 hrd1 hen1
              go_wp2_with fail
              go_ret2
              exact ⟨.slice A k cap, by rw [HF2.out]; rfl, by rw [HF2.out]; exact hown2, hbw2⟩
          · have HF2 : Hid (parseL (L s) = ([], 3)) := by
              unfold Hid; rw [HX.out]; unfold accept
              simp only []
              rw [if_neg (fun h => heq h.2.2)]
            have eqs : (T.toList == s.toList) = false := by rw [toList_L, toList_L, hLT, beq_eq_false_iff_ne]; exact heq
            clear HX hv heq hT hLT HO
            rcases key with e1 | ⟨e1, e2⟩
            all_goals
              go_wp2_with fail
              refine HPV.out.mono ?_
              rintro e w1 ⟨rfl, hb1⟩
              have hrd1 := (HRD.out).below hb1
              have hbw1 := hbw.trans (hb1.mono hz)
              have hen1 := (HE.out).below hbw1
              go_wp2_with fail
              refine (HPT.out _ hrd1 hen1).mono ?_
              rintro e w2 ⟨rfl, hb2⟩
              have hbw2 := hbw1.trans (hb2.mono hbw1.size)
              clear hrd1 hen1
              go_wp2_with fail
              go_ret2
              exact ParPost_none HF2.out hbw2
        have hr1 : 0 < r.size := by omega
        have hk48 : k ≤ 48 := by omega
        have e1 : r.toList.isEmpty = false := by rw [Bool.eq_false_iff, ne_eq, neE]; omega
        have hd0 := L_drop r 0 hr1
        rw [List.drop_zero, ← L_from r 1] at hd0
        have hxs : (r.extract 1 r.size).size = r.size - 1 := by rw [ByteArray.size_extract]; omega
        have h91 := head1 r hr1 91
        have h46 := head1 r hr1 46
        have HSK := Lib.hid (skip_any 1 w.heap.size r wr HV.out (by omega))
        have hrest : restN wr w.heap.size = r.size := by unfold restN; rw [hc0]
        have HREST := Lib.hid hrest
        have hbad : stepI (L r) = none → Hid (parseL (L s) = ([], 3)) := by
          intro h
          unfold Hid
          rw [HF.out, HLR.out, loopI_bad k (L r) acc hk48 (by rw [hd0]; simp) h]
          rfl
        have hgood : ∀ st l', stepI (L r) = some (st, l') → Hid (loopI 49 0 (strip (L s)) = (loopI (49 - (k + 1)) (k + 1) l').map fun p => (acc ++ [st]) ++ p) := by
          intro st l' h
          unfold Hid
          rw [HLR.out, loopI_step k (L r) st l' acc hk48 (by rw [hd0]; simp) h]
        have HBAD := Lib.hid hbad; clear hbad
        have HGOOD := Lib.hid hgood; clear hgood
        have hsc := step_cases r[0] (L (r.extract 1 r.size))
        rw [← hd0] at hsc
        have HSC := Lib.hid hsc
        clear hsc hd0 hrest HLR hex HV
        generalize r.extract 1 r.size = t at *
        have hts : t.size < r.size := by omega
        obtain ⟨c, hc⟩ : ∃ c, r[0] = c := ⟨_, rfl⟩
        rw [hc] at h91 h46 HSC
        clear hc
        by_cases c91 : c = 91
        case neg =>
          have e91 : ((r.extract 0 1).toList == [91]) = false := by rw [h91]; exact decide_eq_false c91
          have hn91 : ¬ c.toNat = 91 := by intro h; exact c91 (u8_of h)
          have HSC2 : Hid (stepI (L r) = if c.toNat = 46 then (if (L t).head? = some 34 then stB (L t) else stC (L t)) else none) := by unfold Hid; rw [HSC.out, if_neg hn91]
          clear HSC c91
          by_cases c46 : c = 46
          case neg =>
            have e46' : ((r.extract 0 1).toList == [46]) = false := by rw [h46]; exact decide_eq_false c46
            have hn46 : ¬ c.toNat = 46 := by intro h; exact c46 (u8_of h)
            have HFB := HBAD.out (by rw [HSC2.out, if_neg hn46])
            clear HSC2 HBAD HGOOD hn91 hn46 c46
            go_wp2_with fail
            refine HSK.out.mono ?_
            rintro e w1 ⟨rfl, hV1, hS1⟩
            have hbw1 := hS1.below hbw (Nat.le_refl _)
            have hown1 := hS1.own hown hR
            have hV1' := Lib.hid hV1
            obtain ⟨hc1, hf1, hR1⟩ := hV1
            clear hc0 hf0 hown HSK h91 h46 hS1
            go_wp2_with fail
            go_ret2
            exact ParPost_none HFB.out hbw1
          have e46' : ((r.extract 0 1).toList == [46]) = true := by rw [h46]; exact decide_eq_true c46
          have h46n : c.toNat = 46 := by rw [c46]; rfl
          by_cases ht0 : t.size = 0
          · have et : t.toList.isEmpty = true := neE.2 ht0
            have hLt : L t = [] := List.length_eq_zero_iff.1 (by rw [L_len]; exact ht0)
            have HFB := HBAD.out (by rw [HSC2.out, hLt, if_pos h46n]; rfl)
            have HFO := Lib.hid (follows_any t)
            have hf0' : folL (L t) = 0 := by rw [hLt]; rfl
            rw [hf0'] at HFO
            clear HSC2 HBAD HGOOD hn91 h46n c46 hLt hf0'
            go_wp2_with fail
            refine HSK.out.mono ?_
            rintro e w1 ⟨rfl, hV1, hS1⟩
            have hbw1 := hS1.below hbw (Nat.le_refl _)
            have hown1 := hS1.own hown hR
            have hV1' := Lib.hid hV1
            obtain ⟨hc1, hf1, hR1⟩ := hV1
            clear hc0 hf0 hown HSK h91 h46 hS1
            go_wp2_with (go_at_call 33; refine (HFO.out _ (by omega)).mono ?_; rintro e w2 ⟨rfl, rfl⟩)
            go_ret2
            exact ParPost_none HFB.out hbw1
          have ht1 : 0 < t.size := by omega
          have et : t.toList.isEmpty = false := by rw [Bool.eq_false_iff, ne_eq, neE]; exact ht0
          have hhd : (L t).head? = some t[0] := by
            have := L_drop t 0 ht1
            rw [List.drop_zero] at this
            rw [this]; rfl
          by_cases h34 : t[0].toNat = 34
          · have e34 : ((t[0].toNat : Int) == 34) = true := beqB _ _ (by omega)
            have HSC3 : Hid (stepI (L r) = stB (L t)) := by unfold Hid; rw [HSC2.out, if_pos h46n, if_pos (by rw [hhd, u8_of h34]; rfl)]
            have hBn := stB_none (L t)
            have hBs := stB_some (L t)
            have HUQ := Lib.hid (fun w' => unquote_any t w' (by omega) (by omega))
            have hle := unqF_le (L t).length ((L t).drop 1)
            rw [List.length_drop, L_len] at hle
            have hUT : unqT t = (unqF (L t).length ((L t).drop 1)).map fun r => (r.1, r.2 + 1) := by unfold unqT; rw [L_len]
            rw [hUT] at HUQ
            rw [L_len] at HUQ hBn hBs
            clear HSC2 hn91 h46n c46 hhd hUT
            generalize unqF t.size ((L t).drop 1) = U at *
            cases U with
            | none =>
              have HFB := HBAD.out (by rw [HSC3.out]; exact hBn rfl)
              have HUV : Hid (unqV (Option.map (fun r => (r.1, r.2 + 1)) (none : Option (List UInt8 × Nat))) = .tuple #[.string ⟨#[]⟩, .int .i64 0]) := rfl
              clear HSC3 HBAD HGOOD hle hBn hBs
              go_wp2_with fail
              refine HSK.out.mono ?_
              rintro e w1 ⟨rfl, hV1, hS1⟩
              have hbw1 := hS1.below hbw (Nat.le_refl _)
              have hown1 := hS1.own hown hR
              have hV1' := Lib.hid hV1
              obtain ⟨hc1, hf1, hR1⟩ := hV1
              clear hc0 hf0 hown HSK h91 h46 hS1
              have hen1 := (HE.out).below hbw1
              go_wp2_with fail
              refine (HUQ.out _ hen1).mono ?_
              rintro e w2 ⟨rfl, hb2⟩
              rw [HUV.out]
              have hbw2 := hbw1.trans (hb2.mono hbw1.size)
              clear hen1 hown1
              go_wp2_with fail
              go_ret2
              exact ParPost_none HFB.out hbw2
            | some x =>
              obtain ⟨x1, x2⟩ := x
              have hx2 := hle (x1, x2) rfl
              simp only [] at hx2
              have HG := HGOOD.out _ _ (by rw [HSC3.out]; exact hBs _ rfl)
              have HUV : Hid (unqV (Option.map (fun r => (r.1, r.2 + 1)) (some (x1, x2))) = .tuple #[.string ⟨x1.toArray⟩, .int .i64 ((x2 + 1 : Nat) : Int)]) := rfl
              have hx0 : (((x2 + 1 : Nat) : Int) == 0) = false := by rw [beq_eq_false_iff_ne]; omega
              clear HSC3 HBAD HGOOD hle hBn hBs
              go_wp2_with fail
              refine HSK.out.mono ?_
              rintro e w1 ⟨rfl, hV1, hS1⟩
              have hbw1 := hS1.below hbw (Nat.le_refl _)
              have hown1 := hS1.own hown hR
              have hV1' := Lib.hid hV1
              obtain ⟨hc1, hf1, hR1⟩ := hV1
              clear hc0 hf0 hown HSK h91 h46 hS1
              have hen1 := (HE.out).below hbw1
              go_wp2_with fail
              refine (HUQ.out _ hen1).mono ?_
              rintro e w2 ⟨rfl, hb2⟩
              rw [HUV.out]
              have hbw2 := hbw1.trans (hb2.mono hbw1.size)
              have hown2 := own_below hown1 hb2
              have hV2 := (hV1'.out).below hb2 hR1
              clear hen1 hown1 hc1 hf1 hb2 HUQ
              generalize hxn : x2 + 1 = n at *
              obtain ⟨hc2, hf2, hR2⟩ := hV2
              have HV2 := Lib.hid (⟨hc2, hf2, hR2⟩ : Var w2 w.heap.size t)
              go_wp2_with fail
              refine (skip_any n w.heap.size t w2 HV2.out (by omega)).mono ?_
              rintro e w3 ⟨rfl, hV3, hS3⟩
              have hbw3 := hS3.below hbw2 (Nat.le_refl _)
              have hown3 := hS3.own hown2 hR
              have HV3 := Lib.hid hV3
              clear hown2 hS3 hV3 hc2 hf2
              go_wp2_with fail
              refine (Key_any _ w3).mono ?_
              rintro e w4 ⟨rfl, hb4⟩
              have hV4 := (HV3.out).below hb4 (HV3.out).2.2
              have hown4 := own_below hown3 hb4
              have hbw4 := hbw3.trans (hb4.mono hbw3.size)
              have hR4 := hV4.2.2
              have HV4 := Lib.hid hV4
              clear hown3 hb4 hV4
              go_wp2_with (at_builtin; refine wp_push elem_step rfl _ _ rfl hown4 (stk (false, ⟨x1.toArray⟩, 0)) rfl (stk_one _) rfl rfl (by omega) hR4 ?_; intro v' w5 hown5 hg5 hb5)
              have hV5 := (HV4.out).below hb5 hR
              have hxt : (t.extract n t.size).size = t.size - n := by rw [ByteArray.size_extract]; omega
              refine ⟨⟨k + 1, t.extract n t.size, acc ++ [(false, ⟨x1.toArray⟩, 0)], by omega, by simp; omega, by omega, hV5, by rw [List.flatMap_append]; simpa using hown5, by rw [L_from]; exact HG, hbw4.trans (hb5.mono (by omega))⟩, ?_⟩
              rw [HREST.out]
              show restN _ _ < _
              unfold restN
              rw [hV5.1]
              show (t.extract n t.size).size < _
              omega
          · have e34 : ((t[0].toNat : Int) == 34) = false := beqNB _ _ (by omega)
            have HSC3 : Hid (stepI (L r) = if 0 < folL (L t) then some ((false, ⟨((L t).take (folL (L t))).toArray⟩, 0), (L t).drop (folL (L t))) else none) := by
              unfold Hid
              rw [HSC2.out, if_pos h46n, if_neg]
              · rfl
              · intro h
                rw [hhd] at h
                simp only [Option.some.injEq] at h
                rw [h] at h34
                exact h34 (by decide)
            have hfle := folL_le (L t)
            rw [L_len] at hfle
            have HFO := Lib.hid (follows_any t)
            have hkt : (⟨((L t).take (folL (L t))).toArray⟩ : ByteArray) = t.extract 0 (folL (L t)) := L_inj (by rw [L_upto]; rfl)
            rw [hkt] at HSC3
            clear HSC2 hn91 h46n c46 hhd h34 hkt
            generalize folL (L t) = f at *
            by_cases hf : 0 < f
            case neg =>
              have HFB := HBAD.out (by rw [HSC3.out, if_neg hf])
              have hf' : ¬ (0 : Int) < f := by omega
              clear HSC3 HBAD HGOOD hf
              go_wp2_with fail
              refine HSK.out.mono ?_
              rintro e w1 ⟨rfl, hV1, hS1⟩
              have hbw1 := hS1.below hbw (Nat.le_refl _)
              have hown1 := hS1.own hown hR
              have hV1' := Lib.hid hV1
              obtain ⟨hc1, hf1, hR1⟩ := hV1
              clear hc0 hf0 hown HSK h91 h46 hS1
              go_wp2_with (go_at_call 33; refine (HFO.out _ (by omega)).mono ?_; rintro e w2 ⟨rfl, rfl⟩)
              go_ret2
              exact ParPost_none HFB.out hbw1
            have HG := HGOOD.out _ _ (by rw [HSC3.out, if_pos hf])
            have hf' : (0 : Int) < f := by omega
            clear HSC3 HBAD HGOOD hf
            go_wp2_with fail
            refine HSK.out.mono ?_
            rintro e w1 ⟨rfl, hV1, hS1⟩
            have hbw1 := hS1.below hbw (Nat.le_refl _)
            have hown1 := hS1.own hown hR
            have hV1' := Lib.hid hV1
            obtain ⟨hc1, hf1, hR1⟩ := hV1
            clear hc0 hf0 hown HSK h91 h46 hS1
            go_wp2_with (go_at_call 33; refine (HFO.out _ (by omega)).mono ?_; rintro e w2 ⟨rfl, rfl⟩)
            refine (skip_any f w.heap.size t w1 hV1'.out hfle).mono ?_
            rintro e w3 ⟨rfl, hV3, hS3⟩
            have hbw3 := hS3.below hbw1 (Nat.le_refl _)
            have hown3 := hS3.own hown1 hR
            have HV3 := Lib.hid hV3
            clear hown1 hS3 hV3 hc1 hf1
            go_wp2_with fail
            refine (Key_any _ w3).mono ?_
            rintro e w4 ⟨rfl, hb4⟩
            have hV4 := (HV3.out).below hb4 (HV3.out).2.2
            have hown4 := own_below hown3 hb4
            have hbw4 := hbw3.trans (hb4.mono hbw3.size)
            have hR4 := hV4.2.2
            have HV4 := Lib.hid hV4
            clear hown3 hb4 hV4
            go_wp2_with (at_builtin; refine wp_push elem_step rfl _ _ rfl hown4 (stk (false, t.extract 0 f, 0)) rfl (stk_one _) rfl rfl (by omega) hR4 ?_; intro v' w5 hown5 hg5 hb5)
            have hV5 := (HV4.out).below hb5 hR
            have hxt : (t.extract f t.size).size = t.size - f := by rw [ByteArray.size_extract]; omega
            refine ⟨⟨k + 1, t.extract f t.size, acc ++ [(false, t.extract 0 f, 0)], by omega, by simp; omega, by omega, hV5, by rw [List.flatMap_append]; simpa using hown5, by rw [L_from]; exact HG, hbw4.trans (hb5.mono (by omega))⟩, ?_⟩
            rw [HREST.out]
            show restN _ _ < _
            unfold restN
            rw [hV5.1]
            show (t.extract f t.size).size < _
            omega
        have e91 : ((r.extract 0 1).toList == [91]) = true := by rw [h91]; exact decide_eq_true c91
        have h91n : c.toNat = 91 := by rw [c91]; rfl
        have HSC2 : Hid (stepI (L r) = stA (L t)) := by unfold Hid; rw [HSC.out, if_pos h91n]
        clear HSC h91n c91
        go_wp2_with fail
        refine HSK.out.mono ?_
        rintro e w1 ⟨rfl, hV1, hS1⟩
        have hbw1 := hS1.below hbw (Nat.le_refl _)
        have hown1 := hS1.own hown hR
        have hV1' := Lib.hid hV1
        obtain ⟨hc1, hf1, hR1⟩ := hV1
        clear hc0 hf0 hown HSK h91 h46 hS1
        go_wp2_with fail
        go_loop [8] (fun n => ∃ j : Nat, j ≤ t.size ∧ n = .int .i64 j ∧ Hid (idx93 (L t) = j + idx93 ((L t).drop j))) (fun n => t.size - (intOf n).toNat)
        case atStart => exact ⟨0, Nat.zero_le _, rfl, by unfold Hid; simp⟩
        case round =>
          obtain ⟨j, hj, rfl, HI⟩ := hrel
          have HNONE := Lib.hid (stA_none (L t))
          have HABAD := Lib.hid (stA_bad (L t))
          have HASOME := Lib.hid (stA_some (L t))
          by_cases hjt : j < t.size
          case neg =>
            have hidx : idx93 (L t) = t.size := by
              rw [HI.out, L_drop_nil t j (by omega)]
              show j + 0 = _
              omega
            have HFB := HBAD.out (by rw [HSC2.out]; exact HNONE.out (.inr (.inr (by rw [hidx, L_len]))))
            have hjn : ((j : Int) == t.size) = true := by rw [beq_iff_eq]; omega
            have hj0 : j = 0 ∨ 0 < j := by omega
            clear HSC2 HBAD HGOOD HI HNONE HABAD HASOME hidx
            by_cases g0 : j = 0
            · have g0' : ((j : Int) == 0) = true := by rw [beq_iff_eq]; omega
              go_wp2_with fail
              go_ret2
              exact ParPost_none HFB.out hbw1
            have g0' : ((j : Int) == 0) = false := by rw [beq_eq_false_iff_ne]; omega
            by_cases g6 : 6 < j
            · have g6' : (6 : Int) < j := by omega
              go_wp2_with fail
              go_ret2
              exact ParPost_none HFB.out hbw1
            · have g6' : ¬ (6 : Int) < j := by omega
              go_wp2_with fail
              go_ret2
              exact ParPost_none HFB.out hbw1
          have hd := L_drop t j hjt
          by_cases h93 : t[j].toNat = 93
          case neg =>
            have HI2 : Hid (idx93 (L t) = (j + 1) + idx93 ((L t).drop (j + 1))) := by
              unfold Hid
              rw [HI.out, hd]
              simp only [idx93]
              rw [if_neg h93]
              omega
            have e93 : ((t[j].toNat : Int) != 93) = true := by rw [bne_iff_ne]; omega
            clear HI hd HSC2 HBAD HGOOD HNONE HABAD HASOME
            go_wp2_with fail
            exact ⟨⟨j + 1, by omega, rfl, HI2⟩, by simp [intOf]; omega⟩
          have e93 : ((t[j].toNat : Int) != 93) = false := by rw [bne_eq_false_iff_eq]; omega
          have hidx : idx93 (L t) = j := by
            rw [HI.out, hd]
            simp only [idx93]
            rw [if_pos h93]
            rfl
          rw [hidx, L_len] at HNONE HABAD HASOME
          have hjn : ((j : Int) == t.size) = false := by rw [beq_eq_false_iff_ne]; omega
          clear HI hd h93 hidx
          by_cases g0 : j = 0
          · have g0' : ((j : Int) == 0) = true := by rw [beq_iff_eq]; omega
            have HFB := HBAD.out (by rw [HSC2.out]; exact HNONE.out (.inl g0))
            clear HSC2 HBAD HGOOD HNONE HABAD HASOME g0
            go_wp2_with fail
            go_ret2
            exact ParPost_none HFB.out hbw1
          have g0' : ((j : Int) == 0) = false := by rw [beq_eq_false_iff_ne]; omega
          by_cases g6 : 6 < j
          · have g6' : (6 : Int) < j := by omega
            have HFB := HBAD.out (by rw [HSC2.out]; exact HNONE.out (.inr (.inl g6)))
            clear HSC2 HBAD HGOOD HNONE HABAD HASOME
            go_wp2_with fail
            go_ret2
            exact ParPost_none HFB.out hbw1
          have g6' : ¬ (6 : Int) < j := by omega
          have hno : ¬ (j = 0 ∨ 6 < j ∨ j = t.size) := by omega
          have hLx : L (t.extract 0 j) = (L t).take j := L_upto t j
          have hxz : (t.extract 0 j).size = j := by rw [ByteArray.size_extract]; omega
          have HA1 := Lib.hid (fun n => Atoi_ok (t.extract 0 j) n (by omega))
          have HA2 := Lib.hid (Atoi_no (t.extract 0 j) (by omega))
          rw [hLx] at HA1 HA2
          have hab := HABAD.out hno
          have hag := fun i => HASOME.out i hno
          clear HNONE HABAD HASOME hLx hxz
          generalize hat : Lib.atoi ((L t).take j) = at1 at *
          cases at1 with
          | none =>
            have HFB := HBAD.out (by rw [HSC2.out]; exact hab rfl)
            clear HSC2 HBAD HGOOD hab hag hat
            go_wp2_with fail
            refine (skip_any j w.heap.size t w1 hV1'.out (by omega)).mono ?_
            rintro e w2 ⟨rfl, hV2, hS2⟩
            have hbw2 := hS2.below hbw1 (Nat.le_refl _)
            have hen2 := (HE.out).below hbw2
            clear hS2 hV2 hc1 hf1
            go_wp2_with fail
            refine (HA2.out trivial _ hen2).mono ?_
            rintro e w3 ⟨⟨N, rfl⟩, hb3⟩
            have hbw3 := hbw2.trans (hb3.mono hbw2.size)
            clear hen2
            go_wp2_with fail
            go_ret2
            exact ParPost_none HFB.out hbw3
          | some i =>
            have HG := HGOOD.out _ _ (by rw [HSC2.out]; exact hag i rfl)
            clear HSC2 HBAD HGOOD hab hag hat
            go_wp2_with fail
            refine (skip_any j w.heap.size t w1 hV1'.out (by omega)).mono ?_
            rintro e w2 ⟨rfl, hV2, hS2⟩
            have hbw2 := hS2.below hbw1 (Nat.le_refl _)
            have hown2 := hS2.own hown1 hR
            have HV2 := Lib.hid hV2
            clear hS2 hV2 hc1 hf1 hown1
            go_wp2_with fail
            refine (HA1.out i rfl _).mono ?_
            rintro e w3 ⟨rfl, hb3⟩
            have hbw3 := hbw2.trans (hb3.mono hbw2.size)
            have hown3 := own_below hown2 hb3
            have hV3 := (HV2.out).below hb3 (HV2.out).2.2
            clear hown2 hb3
            obtain ⟨hc3, hf3, hR3⟩ := hV3
            have HV3 := Lib.hid (⟨hc3, hf3, hR3⟩ : Var w3 w.heap.size (t.extract j t.size))
            have hxt : (t.extract j t.size).size = t.size - j := by rw [ByteArray.size_extract]; omega
            have hLr : L ((t.extract j t.size).extract 1 (t.extract j t.size).size) = (L t).drop (j + 1) := by rw [L_from, L_from, List.drop_drop]
            have hrz : ((t.extract j t.size).extract 1 (t.extract j t.size).size).size = t.size - j - 1 := by rw [ByteArray.size_extract, hxt]; omega
            have HS3 := Lib.hid (skip_any 1 w.heap.size (t.extract j t.size) w3 HV3.out (by omega))
            rw [← hLr] at HG
            clear HV3 hLr
            go_wp2_with fail
            refine (HS3.out).mono ?_
            rintro e w4 ⟨rfl, hV4, hS4⟩
            have hbw4 := hS4.below hbw3 (Nat.le_refl _)
            have hown4 := hS4.own hown3 hR
            have HV4 := Lib.hid hV4
            clear hS4 hV4 hown3 hc3 hf3
            go_wp2_with fail
            refine (At_any i w4).mono ?_
            rintro e w5 ⟨rfl, hb5⟩
            have hV5 := (HV4.out).below hb5 (HV4.out).2.2
            have hown5 := own_below hown4 hb5
            have hbw5 := hbw4.trans (hb5.mono hbw4.size)
            have hR5 := hV5.2.2
            have HV5 := Lib.hid hV5
            clear hown4 hb5 hV5
            go_wp2_with (at_builtin; refine wp_push elem_step rfl _ _ rfl hown5 (stk (true, ⟨#[]⟩, i)) rfl (stk_one _) rfl rfl (by omega) hR5 ?_; intro v' w6 hown6 hg6 hb6)
            have hV6 := (HV5.out).below hb6 hR
            refine ⟨⟨k + 1, (t.extract j t.size).extract 1 (t.extract j t.size).size, acc ++ [(true, ⟨#[]⟩, i)], by omega, by simp; omega, by omega, hV6, by rw [List.flatMap_append]; simpa using hown6, HG, hbw5.trans (hb6.mono (by omega))⟩, ?_⟩
            rw [HREST.out]
            show restN _ _ < _
            unfold restN
            rw [hV6.1]
            show ((t.extract j t.size).extract 1 (t.extract j t.size).size).size < _
            omega
end Go.Proofs.YtjbhjnelepbkcaaDoor
