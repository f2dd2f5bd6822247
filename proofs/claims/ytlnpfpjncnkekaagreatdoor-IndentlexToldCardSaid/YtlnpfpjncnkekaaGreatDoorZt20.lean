/- calendar.Date, datakitref04.Date walked. Conditions: days that exist. -/
import Derived.Test.YtlnpfpjncnkekaaGreatDoorZt19
import Derived.Deep.DeepCutAuto
import Derived.Deep.CutBlock
namespace Go.Proofs.YtlnpfpjncnkekaaGreatDoor
open Go.RowKit
set_option maxHeartbeats 8000000
set_option maxRecDepth 100000

/-! How large the fields are. -/
structure FlB (f : Fl) : Prop where
  y : f.y ≤ 9999
  mo : f.mo ≤ 99
  d : f.d ≤ 99
  ho : f.ho ≤ 99
  mi : f.mi ≤ 99
  se : f.se ≤ 99
  na : f.na ≤ 999999999
  sg : f.sg ≤ 255
  oh : f.oh ≤ 99
  om : f.om ≤ 99
theorem numS_lt (k : Nat) (x : ByteArray × Bool) : (numS k x).1 < 10 ^ k := by
  unfold numS
  have hp : 0 < 10 ^ k := Nat.pow_pos (by decide)
  split
  · rename_i h
    unfold numOK at h
    rw [Bool.and_eq_true] at h
    have h1 := valL_lt ((L x.1).take k) 0 (fun b hb => List.all_eq_true.1 h.2 b hb)
    have h2 : ((L x.1).take k).length ≤ k := by rw [List.length_take]; omega
    have h3 : (10 : Nat) ^ ((L x.1).take k).length ≤ 10 ^ k := Nat.pow_le_pow_right (by decide) h2
    dsimp only
    omega
  · exact hp
theorem num2 (x : ByteArray × Bool) : (numS 2 x).1 ≤ 99 := by
  have := numS_lt 2 x
  have e : (10 : Nat) ^ 2 = 100 := rfl
  omega
theorem num4 (x : ByteArray × Bool) : (numS 4 x).1 ≤ 9999 := by
  have := numS_lt 4 x
  have e : (10 : Nat) ^ 4 = 10000 := rfl
  omega
theorem oneS_le (of : ByteArray) (x : ByteArray × Bool) : (oneS of x).1 ≤ 255 := by
  unfold oneS
  split
  · exact Nat.zero_le _
  split
  · rename_i c _ _
    have := c.toNat_lt
    dsimp only
    omega
  · exact Nat.zero_le _
theorem run_all : ∀ (l : List UInt8), (l.take (runL l)).all dig = true
  | [] => rfl
  | b :: t => by
    have ih := run_all t
    show ((b :: t).take (if dig b then runL t + 1 else 0)).all dig = true
    cases hb : dig b
    · rfl
    · rw [if_pos rfl, List.take_succ_cons, List.all_cons, hb, ih]
      rfl
theorem fracS_lt (x : ByteArray × Bool) : (fracS x).1 ≤ 999999999 := by
  unfold fracS
  split
  · exact Nat.zero_le _
  · rename_i h
    have h1 := valL_lt ((L x.1).take (runL (L x.1))) 0 (fun b hb => List.all_eq_true.1 (run_all (L x.1)) b hb)
    have h2 : ((L x.1).take (runL (L x.1))).length ≤ runL (L x.1) := by rw [List.length_take]; omega
    have h3 : (10 : Nat) ^ ((L x.1).take (runL (L x.1))).length ≤ 10 ^ runL (L x.1) := Nat.pow_le_pow_right (by decide) h2
    dsimp only
    generalize valL 0 ((L x.1).take (runL (L x.1))) = v at *
    generalize runL (L x.1) = r at *
    have h4 : v + 1 ≤ 10 ^ r := by omega
    have h5 : (v + 1) * 10 ^ (9 - r) ≤ 10 ^ r * 10 ^ (9 - r) := Nat.mul_le_mul_right _ h4
    rw [← Nat.pow_add, show r + (9 - r) = 9 by omega, Nat.succ_mul] at h5
    have h6 : 0 < 10 ^ (9 - r) := Nat.pow_pos (by decide)
    have h7 : (10 : Nat) ^ 9 = 1000000000 := rfl
    omega
theorem FlB.zero : FlB fl0 := ⟨by decide, by decide, by decide, by decide, by decide, by decide, by decide, by decide, by decide, by decide⟩
theorem FlB.date {x : ByteArray × Bool} {f : Fl} (h : FlB f) : FlB (dateS x f).2 := ⟨num4 _, num2 _, num2 _, h.ho, h.mi, h.se, h.na, h.sg, h.oh, h.om⟩
theorem FlB.hms {x : ByteArray × Bool} {f : Fl} (h : FlB f) : FlB (hmsS x f).2 := ⟨h.y, h.mo, h.d, num2 _, num2 _, num2 _, h.na, h.sg, h.oh, h.om⟩
theorem FlB.clock {x : ByteArray × Bool} {f : Fl} (h : FlB f) : FlB (clockS x f).2 := by
  have h1 := h.hms (x := x)
  unfold clockS
  generalize hmsS x f = y at *
  unfold dotS
  split
  · exact ⟨h1.y, h1.mo, h1.d, h1.ho, h1.mi, h1.se, fracS_lt _, h1.sg, h1.oh, h1.om⟩
  · exact h1
theorem FlB.off {x : ByteArray × Bool} {f : Fl} (h : FlB f) : FlB (offS x f).2 := by
  unfold offS
  split
  · exact ⟨h.y, h.mo, h.d, h.ho, h.mi, h.se, h.na, oneS_le _ _, num2 _, num2 _⟩
  · exact ⟨h.y, h.mo, h.d, h.ho, h.mi, h.se, h.na, oneS_le _ _, h.oh, h.om⟩
theorem formS_b (x : ByteArray × Bool) (f : Fl) (h : FlB f) : FlB (formS x f).2.2 ∧ 1 ≤ (formS x f).1 ∧ (formS x f).1 ≤ 4 := by
  have h0 : FlB (clockS x f).2 := h.clock
  have h1 : FlB (dateS x f).2 := h.date
  unfold formS
  generalize clockS x f = c0 at *
  generalize dateS x f = d at *
  have h2 : FlB (clockS (oneS sepT d.1).2 d.2).2 := h1.clock
  generalize clockS (oneS sepT d.1).2 d.2 = c at *
  have h3 : FlB (offS c.1 c.2).2 := h2.off
  generalize offS c.1 c.2 = u at *
  split
  · exact ⟨h0, Nat.le_succ 1, Nat.le_of_ble_eq_true rfl⟩
  split
  · exact ⟨h1, Nat.le_refl 1, Nat.le_of_ble_eq_true rfl⟩
  split
  · exact ⟨h2, Nat.le_of_ble_eq_true rfl, Nat.le_of_ble_eq_true rfl⟩
  · exact ⟨h3, Nat.le_of_ble_eq_true rfl, Nat.le_of_ble_eq_true rfl⟩
/-- What Parse makes of the fields. -/
def badF (f : Fl) : Bool := decide (23 < f.ho ∨ 59 < f.mi ∨ 59 < f.se ∨ 23 < f.oh ∨ 59 < f.om)
def nanoF (f : Fl) : Nat := ((f.ho * 60 + f.mi) * 60 + f.se) * 1000000000 + f.na
def offF (f : Fl) : Int := if f.sg = 45 then -((f.oh * 60 + f.om : Nat) : Int) else ((f.oh * 60 + f.om : Nat) : Int)
def momF (kd : Nat) (f : Fl) : List Value × Nat :=
  if kd ≠ 2 ∧ (dayC f.y f.mo f.d).2 ≠ 0 then (tmZ, 2)
  else if badF f then (tmZ, 2)
  else ([.int .i64 (kd : Int), .int .i64 ((if kd = 2 then 0 else (dayC f.y f.mo f.d).1 : Nat) : Int), .int .i64 (nanoF f : Int), .int .i64 (offF f)], 0)
theorem row10 {w : World} {g : Nat} {t : TypeId} {a b c d e f h i j k : Value} (H : w.heap[g]? = some (.cells [a, b, c, d, e, f, h, i, j, k].toArray t (0, 0))) :
    w.cell? ⟨g, 0, none⟩ = some a ∧ w.cell? ⟨g, 1, none⟩ = some b ∧ w.cell? ⟨g, 2, none⟩ = some c ∧ w.cell? ⟨g, 3, none⟩ = some d ∧ w.cell? ⟨g, 4, none⟩ = some e ∧ w.cell? ⟨g, 5, none⟩ = some f ∧ w.cell? ⟨g, 6, none⟩ = some h ∧ w.cell? ⟨g, 7, none⟩ = some i ∧ w.cell? ⟨g, 8, none⟩ = some j ∧ w.cell? ⟨g, 9, none⟩ = some k :=
  ⟨(cell_of_row w g _ _ t (0, 0) H).trans rfl, (cell_of_row w g _ _ t (0, 0) H).trans rfl, (cell_of_row w g _ _ t (0, 0) H).trans rfl, (cell_of_row w g _ _ t (0, 0) H).trans rfl, (cell_of_row w g _ _ t (0, 0) H).trans rfl, (cell_of_row w g _ _ t (0, 0) H).trans rfl, (cell_of_row w g _ _ t (0, 0) H).trans rfl, (cell_of_row w g _ _ t (0, 0) H).trans rfl, (cell_of_row w g _ _ t (0, 0) H).trans rfl, (cell_of_row w g _ _ t (0, 0) H).trans rfl⟩
theorem one4 (a b c d : Int) : ∀ u ∈ [Value.int .i64 a, .int .i64 b, .int .i64 c, .int .i64 d], u.oneCell' = true := by
  intro u hu
  simp only [List.mem_cons, List.not_mem_nil, or_false] at hu
  rcases hu with rfl | rfl | rfl | rfl <;> rfl
theorem momPost {x : List Value × Nat} {l : List Value} {n : Nat} (h : x = (l, n)) : Ending.returned (.tuple #[.agg l.toArray, .int .i64 (n : Nat)]) = Ending.returned (.tuple #[.agg x.1.toArray, .int .i64 (x.2 : Nat)]) := by rw [h]
theorem ParseM_yes (s : ByteArray) (w : World) (hs : s.size ≤ 1000000000) (hb : timB s = true) :
    Calls Tryz.prog 29 #[.string s] w fun e w' => e = .returned (.tuple #[.agg (momF (formS (s, false) fl0).1 (formS (s, false) fl0).2.2).1.toArray, .int .i64 ((momF (formS (s, false) fl0).1 (formS (s, false) fl0).2.2).2 : Nat)]) ∧ Below w.heap.size w w' := by
  obtain ⟨Y, hY⟩ : ∃ Y, Y = momF (formS (s, false) fl0).1 (formS (s, false) fl0).2.2 := ⟨_, rfl⟩
  rw [← hY]
  have HY0 := Lib.hid hY
  clear hY
  have hm : s.size ≤ maxLen := by simp only [maxLen]; omega
  have HB := Lib.hid hb
  clear hb
  go_enter Tryz.func29, Tryz.ntmps29
  go_upto_region 3 with fail
  generalize hW1 : World.alloc w _ = w1
  obtain ⟨ha1, -, hz1, hb1⟩ := alloc_of hW1
  generalize hW2 : World.alloc w1 _ = w2
  obtain ⟨ha2, -, hz2, hb2⟩ := alloc_of hW2
  generalize hW3 : World.alloc w2 _ = w3
  obtain ⟨ha3, -, hz3, hb3⟩ := alloc_of hW3
  have e1 : w.heap.size + 1 = w1.heap.size := hz1.symm
  have e2 : w.heap.size + 1 + 1 = w2.heap.size := by omega
  have HR : Hid (RdA w3 (w.heap.size + 1) (s, false)) := by
    unfold Hid
    rw [e1]
    exact (hb3.block _ (by omega)).trans ha2
  have HF : Hid (FlA w3 (w.heap.size + 1 + 1) fl0) := by
    unfold Hid
    rw [e2]
    exact ha3
  have HX1 : Hid (w3.heap[w.heap.size]? = some (.cells tmZ.toArray 25 (0, 0))) := by
    unfold Hid
    exact (hb3.block _ (by omega)).trans ((hb2.block _ (by omega)).trans ha1)
  have HBW : Hid (Below w.heap.size w w3) := hb1.trans ((hb2.mono (by omega)).trans (hb3.mono (by omega)))
  have HZ3 : Hid (w3.heap.size = w.heap.size + 3) := by unfold Hid; omega
  clear hW1 hW2 hW3 ha1 ha2 ha3 hz1 hz2 hz3 hb1 hb2 hb3 e1 e2
  have hne : w.heap.size + 1 + 1 ≠ w.heap.size + 1 := by omega
  go_wp2_with fail
  refine (form_x (w.heap.size + 1) (w.heap.size + 1 + 1) (s, false) fl0 w3 hs hne HR.out HF.out).mono ?_
  rintro e w4 ⟨rfl, hr, hf, ho⟩
  replace HR := Lib.hid hr
  have HX : Hid (w4.heap[w.heap.size]? = some (.cells tmZ.toArray 25 (0, 0))) := (ho.o _ (by omega) (by omega)).trans HX1.out
  replace HBW := Lib.hid (HBW.out.trans (ho.b w.heap.size (by omega) (by omega)))
  replace HF := Lib.hid hf
  have HZ4 : Hid (w4.heap.size = w.heap.size + 3) := by have h3 := HZ3.out; have h4 := ho.z; unfold Hid; omega
  clear hr hf ho HX1 HZ3
  have hT := HB.out
  unfold timB at hT
  obtain ⟨hFB, hk1, hk4⟩ := formS_b (s, false) fl0 FlB.zero
  clear HB
  generalize formS (s, false) fl0 = yy at *
  obtain ⟨kd, ⟨s4, b4⟩, f⟩ := yy
  dsimp only at hT HR HF hFB hk1 hk4 ⊢
  rw [Bool.and_eq_true, Bool.not_eq_true'] at hT
  obtain ⟨hb4, hs4⟩ := hT
  subst hb4
  have hs4' : L s4 = [] := of_decide_eq_true hs4
  have he1 : s4.toList.isEmpty = true := by rw [empty_L]; simpa using hs4'
  obtain ⟨c0, c1⟩ := HR.out.cells
  have hY : Y = momF kd f := HY0.out
  clear HY0
  have HY : Hid (Y = if kd ≠ 2 ∧ (dayC f.y f.mo f.d).2 ≠ 0 then (tmZ, 2) else if badF f then (tmZ, 2) else ([.int .i64 (kd : Int), .int .i64 ((if kd = 2 then 0 else (dayC f.y f.mo f.d).1 : Nat) : Int), .int .i64 (nanoF f : Int), .int .i64 (offF f)], 0)) := hY
  clear hs4 hs4' hY
  have HDA := Lib.hid (fun w' => Day_any f.y f.mo f.d w' hFB.y (Nat.le_trans hFB.mo (by decide)) (Nat.le_trans hFB.d (by decide)))
  have HFB := Lib.hid hFB
  clear hFB
  go_upto_region 7 with fail
  generalize hW5 : World.alloc w4 _ = w5
  obtain ⟨ha5, -, hz5, hb5⟩ := alloc_of hW5
  have HT : Hid (w5.heap[w4.heap.size]? = some (.cells [.int .i64 (kd : Int), .int .i64 0, .int .i64 0, .int .i64 0].toArray 25 (0, 0))) := ha5
  replace HF : Hid (FlA w5 (w.heap.size + 1 + 1) f) := (hb5.block _ (by have := HZ4.out; omega)).trans HF.out
  replace HX := Lib.hid ((hb5.block _ (by have := HZ4.out; omega)).trans HX.out)
  replace HBW := Lib.hid (HBW.out.trans (hb5.mono (by have := HZ4.out; omega)))
  have HZ5 : Hid (w5.heap.size = w.heap.size + 4) := by have := HZ4.out; unfold Hid; omega
  obtain ⟨g7, hg7⟩ : ∃ g7, g7 = w4.heap.size := ⟨_, rfl⟩
  rw [← hg7] at HT ⊢
  have HG7 : Hid (g7 = w.heap.size + 3) := by have := HZ4.out; unfold Hid; omega
  clear hW5 ha5 hz5 hb5 c0 c1 HR he1 hg7 HZ4
  by_cases hkd : kd = 2
  case pos =>
    have gk : ((kd : Int) != 2) = false := by rw [bne_eq_false_iff_eq]; omega
    replace HY : Hid (Y = if badF f then (tmZ, 2) else ([.int .i64 (kd : Int), .int .i64 ((0 : Nat) : Int), .int .i64 (nanoF f : Int), .int .i64 (offF f)], 0)) := by unfold Hid; rw [HY.out, if_neg (fun h => h.1 hkd), if_pos hkd]
    clear hkd
    go_upto_region 12 with fail
    obtain ⟨z0, z1, z2, z3, z4, z5, z6, z7, z8, z9⟩ := row10 HF.out
    have hho := HFB.out.ho
    have hmi := HFB.out.mi
    have hse := HFB.out.se
    have hna := HFB.out.na
    have hoh := HFB.out.oh
    have hom := HFB.out.om
    go_cut [68] (fun v wx => v = .bool (badF f) ∧ w5 = wx)
    case first =>
      clear HY
      go_wp2_with fail
      all_goals
        go_meet
        refine ⟨congrArg Value.bool ?_, rfl⟩
        unfold badF
        rw [Bool.eq_iff_iff]
        simp at *
        omega
    case rest =>
    obtain ⟨hv, rfl⟩ := hcut
    subst hv
    cases hbf : badF f
    case true =>
      have HE : Hid (Y = (tmZ, 2)) := by unfold Hid; rw [HY.out, hbf]; rfl
      clear HY hbf
      go_wp2_with (refine wpl_store rfl rfl moTm rfl rfl (cs := tmZ) rfl rfl fits_tm HX.out (Nat.le_of_ble_eq_true rfl) (row := tmZ) rfl ?_; generalize hW : World.setRow _ _ _ = w9; have HS := Lib.hid (setRow_of hW HX.out); clear hW)
      obtain ⟨hd5, -, hz5, hb5⟩ := HS.out
      obtain ⟨y0, y1, y2, y3⟩ := row4 hd5
      exact bodyPost_ret (v := .tuple #[.agg tmZ.toArray, .int .i64 2]) (by simp [results, Tryz.results29, go_sem, y0, y1, y2, y3]) rfl ⟨momPost HE.out, HBW.out.trans (hb5 _ (Nat.le_refl _))⟩
    case false =>
      have HE : Hid (Y = ([.int .i64 (kd : Int), .int .i64 ((0 : Nat) : Int), .int .i64 (nanoF f : Int), .int .i64 (offF f)], 0)) := by unfold Hid; rw [HY.out, hbf]; first | rfl | (simp; done)
      clear HY hbf
      have HN7 : Hid (w.heap.size + 1 + 1 ≠ g7 ∧ w.heap.size ≠ g7 ∧ w.heap.size ≤ g7) := by have := HG7.out; unfold Hid; omega
      go_upto_region 15 with (refine wpl_store rfl rfl moI rfl rfl (cs := [.int .i64 ((((f.ho : Int) * 60 + (f.mi : Int)) * 60 + (f.se : Int)) * 1000000000 + (f.na : Int))]) rfl rfl (one_cell rfl) HT.out (Nat.le_of_ble_eq_true rfl) (row := [.int .i64 (kd : Int), .int .i64 ((0 : Nat) : Int), .int .i64 ((((f.ho : Int) * 60 + (f.mi : Int)) * 60 + (f.se : Int)) * 1000000000 + (f.na : Int)), .int .i64 (0)]) rfl ?_; generalize hW : World.setRow _ _ _ = ws; have hs9 := setRow_of hW HT.out; replace HF : Hid (FlA ws (w.heap.size + 1 + 1) f) := (hs9.2.1 _ HN7.out.1).trans HF.out; replace HX := Lib.hid ((hs9.2.1 _ HN7.out.2.1).trans HX.out); replace HBW := Lib.hid (HBW.out.trans (hs9.2.2.2 _ HN7.out.2.2)); replace HT := Lib.hid hs9.1; clear hs9 hW)
      clear z0 z1 z2 z3 z4 z5 z6 z7 z8 z9
      obtain ⟨z0, z1, z2, z3, z4, z5, z6, z7, z8, z9⟩ := row10 HF.out
      go_upto_region 16 with (refine wpl_store rfl rfl moI rfl rfl (cs := [.int .i64 ((f.oh : Int) * 60 + (f.om : Int))]) rfl rfl (one_cell rfl) HT.out (Nat.le_of_ble_eq_true rfl) (row := [.int .i64 (kd : Int), .int .i64 ((0 : Nat) : Int), .int .i64 ((((f.ho : Int) * 60 + (f.mi : Int)) * 60 + (f.se : Int)) * 1000000000 + (f.na : Int)), .int .i64 ((f.oh : Int) * 60 + (f.om : Int))]) rfl ?_; generalize hW : World.setRow _ _ _ = ws; have hs9 := setRow_of hW HT.out; replace HF : Hid (FlA ws (w.heap.size + 1 + 1) f) := (hs9.2.1 _ HN7.out.1).trans HF.out; replace HX := Lib.hid ((hs9.2.1 _ HN7.out.2.1).trans HX.out); replace HBW := Lib.hid (HBW.out.trans (hs9.2.2.2 _ HN7.out.2.2)); replace HT := Lib.hid hs9.1; clear hs9 hW)
      clear z0 z1 z2 z3 z4 z5 z6 z7 z8 z9
      obtain ⟨z0, z1, z2, z3, z4, z5, z6, z7, z8, z9⟩ := row10 HF.out
      by_cases hsg : f.sg = 45
      case pos =>
        have gs : (((f.sg : Nat) : Int) == 45) = true := by rw [beq_iff_eq]; omega
        obtain ⟨-, -, -, y3⟩ := row4 HT.out
        go_upto_region 18 with (refine wpl_store rfl rfl moI rfl rfl (cs := [.int .i64 (-((f.oh : Int) * 60 + (f.om : Int)))]) rfl rfl (one_cell rfl) HT.out (Nat.le_of_ble_eq_true rfl) (row := [.int .i64 (kd : Int), .int .i64 ((0 : Nat) : Int), .int .i64 ((((f.ho : Int) * 60 + (f.mi : Int)) * 60 + (f.se : Int)) * 1000000000 + (f.na : Int)), .int .i64 (-((f.oh : Int) * 60 + (f.om : Int)))]) rfl ?_; generalize hW : World.setRow _ _ _ = ws; have hs9 := setRow_of hW HT.out; replace HF : Hid (FlA ws (w.heap.size + 1 + 1) f) := (hs9.2.1 _ HN7.out.1).trans HF.out; replace HX := Lib.hid ((hs9.2.1 _ HN7.out.2.1).trans HX.out); replace HBW := Lib.hid (HBW.out.trans (hs9.2.2.2 _ HN7.out.2.2)); replace HT := Lib.hid hs9.1; clear hs9 hW)
        clear y3
        have HC : Hid (∀ j, j < 4 → ws.cell? ⟨g7, 0 + j, none⟩ = ([.int .i64 (kd : Int), .int .i64 ((0 : Nat) : Int), .int .i64 ((((f.ho : Int) * 60 + (f.mi : Int)) * 60 + (f.se : Int)) * 1000000000 + (f.na : Int)), .int .i64 (-((f.oh : Int) * 60 + (f.om : Int)))] : List Value)[j]?) := by
          intro j hj
          rw [Nat.zero_add, cell_of_row _ _ _ _ _ _ HT.out, List.getElem?_toArray]
        go_wp2_with (first
          | refine wpl_load rfl rfl stTm rfl (cs := [.int .i64 (kd : Int), .int .i64 ((0 : Nat) : Int), .int .i64 ((((f.ho : Int) * 60 + (f.mi : Int)) * 60 + (f.se : Int)) * 1000000000 + (f.na : Int)), .int .i64 (-((f.oh : Int) * 60 + (f.om : Int)))]) rfl HC.out ?_
          | (refine wpl_store rfl rfl moTm rfl rfl (cs := [.int .i64 (kd : Int), .int .i64 ((0 : Nat) : Int), .int .i64 ((((f.ho : Int) * 60 + (f.mi : Int)) * 60 + (f.se : Int)) * 1000000000 + (f.na : Int)), .int .i64 (-((f.oh : Int) * 60 + (f.om : Int)))]) rfl rfl (one4 _ _ _ _) HX.out (Nat.le_of_ble_eq_true rfl) (row := [.int .i64 (kd : Int), .int .i64 ((0 : Nat) : Int), .int .i64 ((((f.ho : Int) * 60 + (f.mi : Int)) * 60 + (f.se : Int)) * 1000000000 + (f.na : Int)), .int .i64 (-((f.oh : Int) * 60 + (f.om : Int)))]) rfl ?_; generalize hW : World.setRow _ _ _ = w9; have HS := Lib.hid (setRow_of hW HX.out); clear hW))
        obtain ⟨hd5, -, hz5, hb5⟩ := HS.out
        obtain ⟨y0, y1, y2, y3⟩ := row4 hd5
        have HE2 : Hid (Y = ([.int .i64 (kd : Int), .int .i64 ((0 : Nat) : Int), .int .i64 ((((f.ho : Int) * 60 + (f.mi : Int)) * 60 + (f.se : Int)) * 1000000000 + (f.na : Int)), .int .i64 (-((f.oh : Int) * 60 + (f.om : Int)))], 0)) := by
          unfold Hid
          rw [HE.out]
          have e1 : ((nanoF f : Nat) : Int) = (((f.ho : Int) * 60 + (f.mi : Int)) * 60 + (f.se : Int)) * 1000000000 + (f.na : Int) := by unfold nanoF; omega
          have e2 : offF f = -((f.oh : Int) * 60 + (f.om : Int)) := by unfold offF; rw [if_pos hsg]; omega
          rw [e1, e2]
        exact bodyPost_ret (v := .tuple #[.agg ([.int .i64 (kd : Int), .int .i64 ((0 : Nat) : Int), .int .i64 ((((f.ho : Int) * 60 + (f.mi : Int)) * 60 + (f.se : Int)) * 1000000000 + (f.na : Int)), .int .i64 (-((f.oh : Int) * 60 + (f.om : Int)))] : List Value).toArray, .int .i64 0]) (by simp [results, Tryz.results29, go_sem, y0, y1, y2, y3]) rfl ⟨momPost HE2.out, HBW.out.trans (hb5 _ (Nat.le_refl _))⟩
      case neg =>
        have gs : (((f.sg : Nat) : Int) == 45) = false := by rw [beq_eq_false_iff_ne]; omega
        have HC : Hid (∀ j, j < 4 → ws.cell? ⟨g7, 0 + j, none⟩ = ([.int .i64 (kd : Int), .int .i64 ((0 : Nat) : Int), .int .i64 ((((f.ho : Int) * 60 + (f.mi : Int)) * 60 + (f.se : Int)) * 1000000000 + (f.na : Int)), .int .i64 ((f.oh : Int) * 60 + (f.om : Int))] : List Value)[j]?) := by
          intro j hj
          rw [Nat.zero_add, cell_of_row _ _ _ _ _ _ HT.out, List.getElem?_toArray]
        go_wp2_with (first
          | refine wpl_load rfl rfl stTm rfl (cs := [.int .i64 (kd : Int), .int .i64 ((0 : Nat) : Int), .int .i64 ((((f.ho : Int) * 60 + (f.mi : Int)) * 60 + (f.se : Int)) * 1000000000 + (f.na : Int)), .int .i64 ((f.oh : Int) * 60 + (f.om : Int))]) rfl HC.out ?_
          | (refine wpl_store rfl rfl moTm rfl rfl (cs := [.int .i64 (kd : Int), .int .i64 ((0 : Nat) : Int), .int .i64 ((((f.ho : Int) * 60 + (f.mi : Int)) * 60 + (f.se : Int)) * 1000000000 + (f.na : Int)), .int .i64 ((f.oh : Int) * 60 + (f.om : Int))]) rfl rfl (one4 _ _ _ _) HX.out (Nat.le_of_ble_eq_true rfl) (row := [.int .i64 (kd : Int), .int .i64 ((0 : Nat) : Int), .int .i64 ((((f.ho : Int) * 60 + (f.mi : Int)) * 60 + (f.se : Int)) * 1000000000 + (f.na : Int)), .int .i64 ((f.oh : Int) * 60 + (f.om : Int))]) rfl ?_; generalize hW : World.setRow _ _ _ = w9; have HS := Lib.hid (setRow_of hW HX.out); clear hW))
        obtain ⟨hd5, -, hz5, hb5⟩ := HS.out
        obtain ⟨y0, y1, y2, y3⟩ := row4 hd5
        have HE2 : Hid (Y = ([.int .i64 (kd : Int), .int .i64 ((0 : Nat) : Int), .int .i64 ((((f.ho : Int) * 60 + (f.mi : Int)) * 60 + (f.se : Int)) * 1000000000 + (f.na : Int)), .int .i64 ((f.oh : Int) * 60 + (f.om : Int))], 0)) := by
          unfold Hid
          rw [HE.out]
          have e1 : ((nanoF f : Nat) : Int) = (((f.ho : Int) * 60 + (f.mi : Int)) * 60 + (f.se : Int)) * 1000000000 + (f.na : Int) := by unfold nanoF; omega
          have e2 : offF f = (f.oh : Int) * 60 + (f.om : Int) := by unfold offF; rw [if_neg hsg]; omega
          rw [e1, e2]
        exact bodyPost_ret (v := .tuple #[.agg ([.int .i64 (kd : Int), .int .i64 ((0 : Nat) : Int), .int .i64 ((((f.ho : Int) * 60 + (f.mi : Int)) * 60 + (f.se : Int)) * 1000000000 + (f.na : Int)), .int .i64 ((f.oh : Int) * 60 + (f.om : Int))] : List Value).toArray, .int .i64 0]) (by simp [results, Tryz.results29, go_sem, y0, y1, y2, y3]) rfl ⟨momPost HE2.out, HBW.out.trans (hb5 _ (Nat.le_refl _))⟩
  case neg =>
    have gk : ((kd : Int) != 2) = true := by rw [bne_iff_ne]; omega
    obtain ⟨z0, z1, z2, z3, z4, z5, z6, z7, z8, z9⟩ := row10 HF.out
    go_wp2_with fail
    refine (HDA.out _).mono ?_
    rintro e w6 ⟨rfl, hb6⟩
    replace HF : Hid (FlA w6 (w.heap.size + 1 + 1) f) := (hb6.block _ (by have := HZ5.out; omega)).trans HF.out
    replace HX := Lib.hid ((hb6.block _ (by have := HZ5.out; omega)).trans HX.out)
    replace HT := Lib.hid ((hb6.block _ (by have := HZ5.out; have := HG7.out; omega)).trans HT.out)
    replace HBW := Lib.hid (HBW.out.trans (hb6.mono (by have := HZ5.out; omega)))
    have hdb : (dayC f.y f.mo f.d).1 ≤ 100000000 := by
      have h1 := startC_le f.y HFB.out.y
      have h2 := sumM_le f.y (f.mo - 1)
      have h3 := HFB.out.mo
      have h4 := HFB.out.d
      unfold dayC
      split
      · exact Nat.zero_le _
      · dsimp only
        omega
    have hde : (dayC f.y f.mo f.d).2 = 0 ∨ (dayC f.y f.mo f.d).2 = 2 := by
      unfold dayC
      split
      · exact .inr rfl
      · exact .inl rfl
    generalize dayC f.y f.mo f.d = dc at *
    obtain ⟨dy, de⟩ := dc
    dsimp only at hdb hde HY ⊢
    clear hb6 HDA HZ5 z0 z1 z2 z3 z4 z5 z6 z7 z8 z9
    by_cases hd0 : de = 0
    case neg =>
      have gd : ((de : Int) != 0) = true := by rw [bne_iff_ne]; omega
      have HE : Hid (Y = (tmZ, 2)) := by unfold Hid; rw [HY.out, if_pos ⟨hkd, hd0⟩]
      clear HY hkd hd0 hde
      go_wp2_with (refine wpl_store rfl rfl moTm rfl rfl (cs := tmZ) rfl rfl fits_tm HX.out (Nat.le_of_ble_eq_true rfl) (row := tmZ) rfl ?_; generalize hW : World.setRow _ _ _ = w9; have HS := Lib.hid (setRow_of hW HX.out); clear hW)
      obtain ⟨hd5, -, hz5, hb5⟩ := HS.out
      obtain ⟨y0, y1, y2, y3⟩ := row4 hd5
      exact bodyPost_ret (v := .tuple #[.agg tmZ.toArray, .int .i64 2]) (by simp [results, Tryz.results29, go_sem, y0, y1, y2, y3]) rfl ⟨momPost HE.out, HBW.out.trans (hb5 _ (Nat.le_refl _))⟩
    have gd : ((de : Int) != 0) = false := by rw [bne_eq_false_iff_eq]; omega
    replace HY : Hid (Y = if badF f then (tmZ, 2) else ([.int .i64 (kd : Int), .int .i64 ((dy : Nat) : Int), .int .i64 (nanoF f : Int), .int .i64 (offF f)], 0)) := by unfold Hid; rw [HY.out, if_neg (fun h => h.2 hd0), if_neg hkd]
    have HN7 : Hid (w.heap.size + 1 + 1 ≠ g7 ∧ w.heap.size ≠ g7 ∧ w.heap.size ≤ g7) := by have := HG7.out; unfold Hid; omega
    clear hkd hd0 hde
    go_upto_region 12 with (refine wpl_store rfl rfl moI rfl rfl (cs := [.int .i64 ((dy : Int))]) rfl rfl (one_cell rfl) HT.out (Nat.le_of_ble_eq_true rfl) (row := [.int .i64 (kd : Int), .int .i64 ((dy : Nat) : Int), .int .i64 0, .int .i64 0]) rfl ?_; generalize hW : World.setRow _ _ _ = ws; have hs9 := setRow_of hW HT.out; replace HF : Hid (FlA ws (w.heap.size + 1 + 1) f) := (hs9.2.1 _ HN7.out.1).trans HF.out; replace HX := Lib.hid ((hs9.2.1 _ HN7.out.2.1).trans HX.out); replace HBW := Lib.hid (HBW.out.trans (hs9.2.2.2 _ HN7.out.2.2)); replace HT := Lib.hid hs9.1; clear hs9 hW)
    obtain ⟨z0, z1, z2, z3, z4, z5, z6, z7, z8, z9⟩ := row10 HF.out
    have hho := HFB.out.ho
    have hmi := HFB.out.mi
    have hse := HFB.out.se
    have hna := HFB.out.na
    have hoh := HFB.out.oh
    have hom := HFB.out.om
    go_simp
    go_cut [68] (fun v wx => v = .bool (badF f) ∧ ws = wx)
    case first =>
      clear HY
      go_wp2_with fail
      all_goals
        go_meet
        refine ⟨congrArg Value.bool ?_, rfl⟩
        unfold badF
        rw [Bool.eq_iff_iff]
        simp at *
        omega
    case rest =>
    obtain ⟨hv, rfl⟩ := hcut
    subst hv
    cases hbf : badF f
    case true =>
      have HE : Hid (Y = (tmZ, 2)) := by unfold Hid; rw [HY.out, hbf]; rfl
      clear HY hbf
      go_wp2_with (refine wpl_store rfl rfl moTm rfl rfl (cs := tmZ) rfl rfl fits_tm HX.out (Nat.le_of_ble_eq_true rfl) (row := tmZ) rfl ?_; generalize hW : World.setRow _ _ _ = w9; have HS := Lib.hid (setRow_of hW HX.out); clear hW)
      obtain ⟨hd5, -, hz5, hb5⟩ := HS.out
      obtain ⟨y0, y1, y2, y3⟩ := row4 hd5
      exact bodyPost_ret (v := .tuple #[.agg tmZ.toArray, .int .i64 2]) (by simp [results, Tryz.results29, go_sem, y0, y1, y2, y3]) rfl ⟨momPost HE.out, HBW.out.trans (hb5 _ (Nat.le_refl _))⟩
    case false =>
      have HE : Hid (Y = ([.int .i64 (kd : Int), .int .i64 ((dy : Nat) : Int), .int .i64 (nanoF f : Int), .int .i64 (offF f)], 0)) := by unfold Hid; rw [HY.out, hbf]; first | rfl | (simp; done)
      clear HY hbf
      have HN7 : Hid (w.heap.size + 1 + 1 ≠ g7 ∧ w.heap.size ≠ g7 ∧ w.heap.size ≤ g7) := by have := HG7.out; unfold Hid; omega
      go_upto_region 15 with (refine wpl_store rfl rfl moI rfl rfl (cs := [.int .i64 ((((f.ho : Int) * 60 + (f.mi : Int)) * 60 + (f.se : Int)) * 1000000000 + (f.na : Int))]) rfl rfl (one_cell rfl) HT.out (Nat.le_of_ble_eq_true rfl) (row := [.int .i64 (kd : Int), .int .i64 ((dy : Nat) : Int), .int .i64 ((((f.ho : Int) * 60 + (f.mi : Int)) * 60 + (f.se : Int)) * 1000000000 + (f.na : Int)), .int .i64 (0)]) rfl ?_; generalize hW : World.setRow _ _ _ = ws; have hs9 := setRow_of hW HT.out; replace HF : Hid (FlA ws (w.heap.size + 1 + 1) f) := (hs9.2.1 _ HN7.out.1).trans HF.out; replace HX := Lib.hid ((hs9.2.1 _ HN7.out.2.1).trans HX.out); replace HBW := Lib.hid (HBW.out.trans (hs9.2.2.2 _ HN7.out.2.2)); replace HT := Lib.hid hs9.1; clear hs9 hW)
      clear z0 z1 z2 z3 z4 z5 z6 z7 z8 z9
      obtain ⟨z0, z1, z2, z3, z4, z5, z6, z7, z8, z9⟩ := row10 HF.out
      go_upto_region 16 with (refine wpl_store rfl rfl moI rfl rfl (cs := [.int .i64 ((f.oh : Int) * 60 + (f.om : Int))]) rfl rfl (one_cell rfl) HT.out (Nat.le_of_ble_eq_true rfl) (row := [.int .i64 (kd : Int), .int .i64 ((dy : Nat) : Int), .int .i64 ((((f.ho : Int) * 60 + (f.mi : Int)) * 60 + (f.se : Int)) * 1000000000 + (f.na : Int)), .int .i64 ((f.oh : Int) * 60 + (f.om : Int))]) rfl ?_; generalize hW : World.setRow _ _ _ = ws; have hs9 := setRow_of hW HT.out; replace HF : Hid (FlA ws (w.heap.size + 1 + 1) f) := (hs9.2.1 _ HN7.out.1).trans HF.out; replace HX := Lib.hid ((hs9.2.1 _ HN7.out.2.1).trans HX.out); replace HBW := Lib.hid (HBW.out.trans (hs9.2.2.2 _ HN7.out.2.2)); replace HT := Lib.hid hs9.1; clear hs9 hW)
      clear z0 z1 z2 z3 z4 z5 z6 z7 z8 z9
      obtain ⟨z0, z1, z2, z3, z4, z5, z6, z7, z8, z9⟩ := row10 HF.out
      by_cases hsg : f.sg = 45
      case pos =>
        have gs : (((f.sg : Nat) : Int) == 45) = true := by rw [beq_iff_eq]; omega
        obtain ⟨-, -, -, y3⟩ := row4 HT.out
        go_upto_region 18 with (refine wpl_store rfl rfl moI rfl rfl (cs := [.int .i64 (-((f.oh : Int) * 60 + (f.om : Int)))]) rfl rfl (one_cell rfl) HT.out (Nat.le_of_ble_eq_true rfl) (row := [.int .i64 (kd : Int), .int .i64 ((dy : Nat) : Int), .int .i64 ((((f.ho : Int) * 60 + (f.mi : Int)) * 60 + (f.se : Int)) * 1000000000 + (f.na : Int)), .int .i64 (-((f.oh : Int) * 60 + (f.om : Int)))]) rfl ?_; generalize hW : World.setRow _ _ _ = ws; have hs9 := setRow_of hW HT.out; replace HF : Hid (FlA ws (w.heap.size + 1 + 1) f) := (hs9.2.1 _ HN7.out.1).trans HF.out; replace HX := Lib.hid ((hs9.2.1 _ HN7.out.2.1).trans HX.out); replace HBW := Lib.hid (HBW.out.trans (hs9.2.2.2 _ HN7.out.2.2)); replace HT := Lib.hid hs9.1; clear hs9 hW)
        clear y3
        have HC : Hid (∀ j, j < 4 → ws.cell? ⟨g7, 0 + j, none⟩ = ([.int .i64 (kd : Int), .int .i64 ((dy : Nat) : Int), .int .i64 ((((f.ho : Int) * 60 + (f.mi : Int)) * 60 + (f.se : Int)) * 1000000000 + (f.na : Int)), .int .i64 (-((f.oh : Int) * 60 + (f.om : Int)))] : List Value)[j]?) := by
          intro j hj
          rw [Nat.zero_add, cell_of_row _ _ _ _ _ _ HT.out, List.getElem?_toArray]
        go_wp2_with (first
          | refine wpl_load rfl rfl stTm rfl (cs := [.int .i64 (kd : Int), .int .i64 ((dy : Nat) : Int), .int .i64 ((((f.ho : Int) * 60 + (f.mi : Int)) * 60 + (f.se : Int)) * 1000000000 + (f.na : Int)), .int .i64 (-((f.oh : Int) * 60 + (f.om : Int)))]) rfl HC.out ?_
          | (refine wpl_store rfl rfl moTm rfl rfl (cs := [.int .i64 (kd : Int), .int .i64 ((dy : Nat) : Int), .int .i64 ((((f.ho : Int) * 60 + (f.mi : Int)) * 60 + (f.se : Int)) * 1000000000 + (f.na : Int)), .int .i64 (-((f.oh : Int) * 60 + (f.om : Int)))]) rfl rfl (one4 _ _ _ _) HX.out (Nat.le_of_ble_eq_true rfl) (row := [.int .i64 (kd : Int), .int .i64 ((dy : Nat) : Int), .int .i64 ((((f.ho : Int) * 60 + (f.mi : Int)) * 60 + (f.se : Int)) * 1000000000 + (f.na : Int)), .int .i64 (-((f.oh : Int) * 60 + (f.om : Int)))]) rfl ?_; generalize hW : World.setRow _ _ _ = w9; have HS := Lib.hid (setRow_of hW HX.out); clear hW))
        obtain ⟨hd5, -, hz5, hb5⟩ := HS.out
        obtain ⟨y0, y1, y2, y3⟩ := row4 hd5
        have HE2 : Hid (Y = ([.int .i64 (kd : Int), .int .i64 ((dy : Nat) : Int), .int .i64 ((((f.ho : Int) * 60 + (f.mi : Int)) * 60 + (f.se : Int)) * 1000000000 + (f.na : Int)), .int .i64 (-((f.oh : Int) * 60 + (f.om : Int)))], 0)) := by
          unfold Hid
          rw [HE.out]
          have e1 : ((nanoF f : Nat) : Int) = (((f.ho : Int) * 60 + (f.mi : Int)) * 60 + (f.se : Int)) * 1000000000 + (f.na : Int) := by unfold nanoF; omega
          have e2 : offF f = -((f.oh : Int) * 60 + (f.om : Int)) := by unfold offF; rw [if_pos hsg]; omega
          rw [e1, e2]
        exact bodyPost_ret (v := .tuple #[.agg ([.int .i64 (kd : Int), .int .i64 ((dy : Nat) : Int), .int .i64 ((((f.ho : Int) * 60 + (f.mi : Int)) * 60 + (f.se : Int)) * 1000000000 + (f.na : Int)), .int .i64 (-((f.oh : Int) * 60 + (f.om : Int)))] : List Value).toArray, .int .i64 0]) (by simp [results, Tryz.results29, go_sem, y0, y1, y2, y3]) rfl ⟨momPost HE2.out, HBW.out.trans (hb5 _ (Nat.le_refl _))⟩
      case neg =>
        have gs : (((f.sg : Nat) : Int) == 45) = false := by rw [beq_eq_false_iff_ne]; omega
        have HC : Hid (∀ j, j < 4 → ws.cell? ⟨g7, 0 + j, none⟩ = ([.int .i64 (kd : Int), .int .i64 ((dy : Nat) : Int), .int .i64 ((((f.ho : Int) * 60 + (f.mi : Int)) * 60 + (f.se : Int)) * 1000000000 + (f.na : Int)), .int .i64 ((f.oh : Int) * 60 + (f.om : Int))] : List Value)[j]?) := by
          intro j hj
          rw [Nat.zero_add, cell_of_row _ _ _ _ _ _ HT.out, List.getElem?_toArray]
        go_wp2_with (first
          | refine wpl_load rfl rfl stTm rfl (cs := [.int .i64 (kd : Int), .int .i64 ((dy : Nat) : Int), .int .i64 ((((f.ho : Int) * 60 + (f.mi : Int)) * 60 + (f.se : Int)) * 1000000000 + (f.na : Int)), .int .i64 ((f.oh : Int) * 60 + (f.om : Int))]) rfl HC.out ?_
          | (refine wpl_store rfl rfl moTm rfl rfl (cs := [.int .i64 (kd : Int), .int .i64 ((dy : Nat) : Int), .int .i64 ((((f.ho : Int) * 60 + (f.mi : Int)) * 60 + (f.se : Int)) * 1000000000 + (f.na : Int)), .int .i64 ((f.oh : Int) * 60 + (f.om : Int))]) rfl rfl (one4 _ _ _ _) HX.out (Nat.le_of_ble_eq_true rfl) (row := [.int .i64 (kd : Int), .int .i64 ((dy : Nat) : Int), .int .i64 ((((f.ho : Int) * 60 + (f.mi : Int)) * 60 + (f.se : Int)) * 1000000000 + (f.na : Int)), .int .i64 ((f.oh : Int) * 60 + (f.om : Int))]) rfl ?_; generalize hW : World.setRow _ _ _ = w9; have HS := Lib.hid (setRow_of hW HX.out); clear hW))
        obtain ⟨hd5, -, hz5, hb5⟩ := HS.out
        obtain ⟨y0, y1, y2, y3⟩ := row4 hd5
        have HE2 : Hid (Y = ([.int .i64 (kd : Int), .int .i64 ((dy : Nat) : Int), .int .i64 ((((f.ho : Int) * 60 + (f.mi : Int)) * 60 + (f.se : Int)) * 1000000000 + (f.na : Int)), .int .i64 ((f.oh : Int) * 60 + (f.om : Int))], 0)) := by
          unfold Hid
          rw [HE.out]
          have e1 : ((nanoF f : Nat) : Int) = (((f.ho : Int) * 60 + (f.mi : Int)) * 60 + (f.se : Int)) * 1000000000 + (f.na : Int) := by unfold nanoF; omega
          have e2 : offF f = (f.oh : Int) * 60 + (f.om : Int) := by unfold offF; rw [if_neg hsg]; omega
          rw [e1, e2]
        exact bodyPost_ret (v := .tuple #[.agg ([.int .i64 (kd : Int), .int .i64 ((dy : Nat) : Int), .int .i64 ((((f.ho : Int) * 60 + (f.mi : Int)) * 60 + (f.se : Int)) * 1000000000 + (f.na : Int)), .int .i64 ((f.oh : Int) * 60 + (f.om : Int))] : List Value).toArray, .int .i64 0]) (by simp [results, Tryz.results29, go_sem, y0, y1, y2, y3]) rfl ⟨momPost HE2.out, HBW.out.trans (hb5 _ (Nat.le_refl _))⟩
end Go.Proofs.YtlnpfpjncnkekaaGreatDoor

namespace Go.Proofs.YtlnpfpjncnkekaaGreatDoor
open Go.RowKit
set_option maxHeartbeats 8000000
set_option maxRecDepth 100000

abbrev datF : ByteArray := ⟨#[100, 100, 100, 100, 45, 100, 100, 45, 100, 100]⟩
def tmV (k d n o : Int) : List Value := [.int .i64 k, .int .i64 d, .int .i64 n, .int .i64 o]
/-- Behind the date and a T. -/
def afterR (d : Nat × Nat) (c : Nat × List UInt8 × Bool × Bool) : List Value × Nat :=
  if c.2.2.1 = false then (tmZ, 3)
  else if c.2.1 = [] then (if d.2 ≠ 0 ∨ c.2.2.2 = false then (tmZ, 2) else (tmV 3 (d.1 : Nat) (c.1 : Nat) 0, 0))
  else if (toR c.2.1).2.1 = false then (tmZ, 3)
  else if d.2 ≠ 0 ∨ (c.2.2.2 && (toR c.2.1).2.2) = false then (tmZ, 2) else (tmV 4 (d.1 : Nat) (c.1 : Nat) (toR c.2.1).1, 0)
def datedR (d : Nat × Nat) (l : List UInt8) : List Value × Nat :=
  match l with
  | [] => if d.2 ≠ 0 then (tmZ, d.2) else (tmV 1 (d.1 : Nat) 0 0, 0)
  | b :: t => if b.toNat = 84 ∨ b.toNat = 116 ∨ b.toNat = 32 then afterR d (tcR t) else (tmZ, 3)
def clockR (c : Nat × List UInt8 × Bool × Bool) : List Value × Nat :=
  if c.2.2.1 = false ∨ c.2.1 ≠ [] then (tmZ, 3) else if c.2.2.2 = false then (tmZ, 2) else (tmV 2 0 (c.1 : Nat) 0, 0)
def rpR (l : List UInt8) : List Value × Nat :=
  if likeB l (L datF) = false then clockR (tcR l)
  else datedR (dayC (valL 0 (l.take 4)) (valL 0 ((l.drop 5).take 2)) (valL 0 ((l.drop 8).take 2))) (l.drop 10)
theorem dat_digs (l : List UInt8) (h : likeB l (L datF) = true) : 10 ≤ l.length ∧ (l.take 4).all dig = true ∧ ((l.drop 5).take 2).all dig = true ∧ ((l.drop 8).take 2).all dig = true ∧ l[4]? = some 45 ∧ l[7]? = some 45 := by
  have hl : 10 ≤ l.length := likeB_len _ _ h
  obtain ⟨a0, a1, a2, a3, a4, a5, a6, a7, a8, a9, t, rfl⟩ : ∃ a0 a1 a2 a3 a4 a5 a6 a7 a8 a9 t, l = a0 :: a1 :: a2 :: a3 :: a4 :: a5 :: a6 :: a7 :: a8 :: a9 :: t := by
    match l, hl with
    | a0 :: a1 :: a2 :: a3 :: a4 :: a5 :: a6 :: a7 :: a8 :: a9 :: t, _ => exact ⟨a0, a1, a2, a3, a4, a5, a6, a7, a8, a9, t, rfl⟩
  have h' : likeB (a0 :: a1 :: a2 :: a3 :: a4 :: a5 :: a6 :: a7 :: a8 :: a9 :: t) [100, 100, 100, 100, 45, 100, 100, 45, 100, 100] = true := h
  simp [likeB] at h'
  obtain ⟨h0, h1, h2, h3, h4, h5, h6, h7, h8, h9⟩ := h'
  have e4 : a4 = 45 := UInt8.toNat_inj.1 h4
  have e7 : a7 = 45 := UInt8.toNat_inj.1 h7
  refine ⟨hl, ?_, ?_, ?_, ?_, ?_⟩
  · simp [h0, h1, h2, h3]
  · simp [h5, h6]
  · simp [h8, h9]
  · rw [e4]; rfl
  · rw [e7]; rfl
end Go.Proofs.YtlnpfpjncnkekaaGreatDoor

namespace Go.Proofs.YtlnpfpjncnkekaaGreatDoor
open Go.RowKit
set_option maxHeartbeats 1000000
set_option maxRecDepth 100000

/-! A reader that is bad stays bad. -/
theorem numS_bad (k : Nat) (x : ByteArray × Bool) (h : x.2 = true) : (numS k x).2.2 = true := by
  unfold numS
  split
  · exact h
  · rfl
theorem oneS_bad (of : ByteArray) (x : ByteArray × Bool) (h : x.2 = true) : (oneS of x).2.2 = true := by
  unfold oneS
  split
  · rfl
  split
  · exact h
  · rfl
theorem fracS_bad (x : ByteArray × Bool) (h : x.2 = true) : (fracS x).2.2 = true := by
  unfold fracS
  split
  · rfl
  · exact h
theorem hmsS_bad (x : ByteArray × Bool) (f : Fl) (h : x.2 = true) : (hmsS x f).1.2 = true := numS_bad _ _ (oneS_bad _ _ (numS_bad _ _ (oneS_bad _ _ (numS_bad _ _ h))))
theorem dotS_bad (y : (ByteArray × Bool) × Fl) (h : y.1.2 = true) : (dotS y).1.2 = true := by
  unfold dotS
  split
  · exact fracS_bad _ h
  · exact h
theorem clockS_bad (x : ByteArray × Bool) (f : Fl) (h : x.2 = true) : (clockS x f).1.2 = true := dotS_bad _ (hmsS_bad _ _ h)
theorem offS_bad (x : ByteArray × Bool) (f : Fl) (h : x.2 = true) : (offS x f).1.2 = true := by
  unfold offS
  split
  · exact numS_bad _ _ (oneS_bad _ _ (numS_bad _ _ (oneS_bad _ _ h)))
  · exact oneS_bad _ _ h
/-! Steps. -/
theorem num_ok (k : Nat) (x : ByteArray × Bool) (h1 : k ≤ (L x.1).length) (h2 : ((L x.1).take k).all dig = true) : numS k x = (valL 0 ((L x.1).take k), x.1.extract k x.1.size, x.2) := by
  unfold numS numOK
  rw [L_len] at h1
  rw [if_pos (by rw [decide_eq_true h1, h2]; rfl)]
theorem num_no (k : Nat) (x : ByteArray × Bool) (h : ¬ (k ≤ (L x.1).length ∧ ((L x.1).take k).all dig = true)) : (numS k x).2.2 = true := by
  unfold numS numOK
  rw [L_len] at h
  rw [if_neg]
  intro h'
  rw [Bool.and_eq_true] at h'
  exact h ⟨of_decide_eq_true h'.1, h'.2⟩
theorem one_ok (of : ByteArray) (x : ByteArray × Bool) (c : UInt8) (h1 : (L x.1).head? = some c) (h2 : (L of).contains c = true) : oneS of x = (c.toNat, x.1.extract 1 x.1.size, x.2) := by
  unfold oneS
  rw [h1]
  dsimp only
  rw [if_pos h2]
theorem one_no (of : ByteArray) (x : ByteArray × Bool) (h : ∀ c, (L x.1).head? = some c → (L of).contains c = false) : (oneS of x).2.2 = true := by
  unfold oneS
  split
  · rfl
  · rename_i c hc
    rw [if_neg (by rw [h c hc]; simp)]
theorem ext_ext (s : ByteArray) (a b : Nat) : (s.extract a s.size).extract b (s.extract a s.size).size = s.extract (a + b) s.size := by
  apply L_inj
  rw [L_from, L_from, L_from, List.drop_drop]
theorem ext_zero (s : ByteArray) : s.extract 0 s.size = s := by
  apply L_inj
  rw [L_from, List.drop_zero]
theorem num_at (s : ByteArray) (a k : Nat) (h1 : a + k ≤ s.size) (h2 : (((L s).drop a).take k).all dig = true) : numS k (s.extract a s.size, false) = (valL 0 (((L s).drop a).take k), s.extract (a + k) s.size, false) := by
  rw [num_ok k (s.extract a s.size, false) (by dsimp only; rw [L_from, List.length_drop, L_len]; omega) (by dsimp only; rw [L_from]; exact h2)]
  dsimp only
  rw [L_from, ext_ext]
theorem one_at (of s : ByteArray) (a : Nat) (c : UInt8) (h1 : (L s)[a]? = some c) (h2 : (L of).contains c = true) : oneS of (s.extract a s.size, false) = (c.toNat, s.extract (a + 1) s.size, false) := by
  rw [one_ok of (s.extract a s.size, false) c (by dsimp only; rw [L_from, List.head?_drop]; exact h1) h2]
  dsimp only
  rw [ext_ext]
theorem num_bad_at (s : ByteArray) (a k : Nat) (h : ¬ (a + k ≤ s.size ∧ (((L s).drop a).take k).all dig = true)) (hk : 0 < k) : (numS k (s.extract a s.size, false)).2.2 = true := by
  refine num_no k _ (fun h' => h ?_)
  dsimp only at h'
  rw [L_from, List.length_drop, L_len] at h'
  exact ⟨by omega, h'.2⟩
theorem one_bad_at (of s : ByteArray) (a : Nat) (h : ∀ c, (L s)[a]? = some c → (L of).contains c = false) : (oneS of (s.extract a s.size, false)).2.2 = true := by
  refine one_no of _ (fun c hc => h c ?_)
  dsimp only at hc
  rw [L_from, List.head?_drop] at hc
  exact hc
theorem hms_like (l : List UInt8) (h8 : 8 ≤ l.length) (d1 : (l.take 2).all dig = true) (c1 : l[2]? = some 58) (d2 : ((l.drop 3).take 2).all dig = true) (c2 : l[5]? = some 58) (d3 : ((l.drop 6).take 2).all dig = true) : likeB l (L hmsF) = true := by
  obtain ⟨a0, a1, a2, a3, a4, a5, a6, a7, t, rfl⟩ : ∃ a0 a1 a2 a3 a4 a5 a6 a7 t, l = a0 :: a1 :: a2 :: a3 :: a4 :: a5 :: a6 :: a7 :: t := by
    match l, h8 with
    | a0 :: a1 :: a2 :: a3 :: a4 :: a5 :: a6 :: a7 :: t, _ => exact ⟨a0, a1, a2, a3, a4, a5, a6, a7, t, rfl⟩
  show likeB _ [100, 100, 58, 100, 100, 58, 100, 100] = true
  simp at d1 d2 d3 c1 c2
  subst c1 c2
  simp [likeB, d1, d2, d3]
/-- Two digits, a colon, two digits, a colon, two digits. -/
theorem hms_ok (s : ByteArray) (f : Fl) (h : likeB (L s) (L hmsF) = true) :
    hmsS (s, false) f = ((s.extract 8 s.size, false), { f with ho := valL 0 ((L s).take 2), mi := valL 0 (((L s).drop 3).take 2), se := valL 0 (((L s).drop 6).take 2) }) := by
  obtain ⟨h8, d1, d2, d3, c1, c2⟩ := hms_digs _ h
  rw [L_len] at h8
  have e1 : numS 2 (s, false) = (valL 0 ((L s).take 2), s.extract 2 s.size, false) := by
    have := num_at s 0 2 (by omega) (by rw [List.drop_zero]; exact d1)
    rw [ext_zero, List.drop_zero] at this
    exact this
  have e2 : oneS col (s.extract 2 s.size, false) = (58, s.extract 3 s.size, false) := one_at col s 2 58 c1 (by decide)
  have e3 : numS 2 (s.extract 3 s.size, false) = (valL 0 (((L s).drop 3).take 2), s.extract 5 s.size, false) := num_at s 3 2 (by omega) d2
  have e4 : oneS col (s.extract 5 s.size, false) = (58, s.extract 6 s.size, false) := one_at col s 5 58 c2 (by decide)
  have e5 : numS 2 (s.extract 6 s.size, false) = (valL 0 (((L s).drop 6).take 2), s.extract 8 s.size, false) := num_at s 6 2 (by omega) d3
  unfold hmsS
  simp only [e1, e2, e3, e4, e5]
theorem hms_no (s : ByteArray) (f : Fl) (h : likeB (L s) (L hmsF) = false) : (hmsS (s, false) f).1.2 = true := by
  show (numS 2 (oneS col (numS 2 (oneS col (numS 2 (s, false)).2).2).2).2).2.2 = true
  by_cases k1 : 0 + 2 ≤ s.size ∧ (((L s).drop 0).take 2).all dig = true
  case neg =>
    have b1 : (numS 2 (s, false)).2.2 = true := by
      have := num_bad_at s 0 2 k1 (by decide)
      rwa [ext_zero] at this
    exact numS_bad _ _ (oneS_bad _ _ (numS_bad _ _ (oneS_bad _ _ b1)))
  have e1 : numS 2 (s, false) = (valL 0 (((L s).drop 0).take 2), s.extract 2 s.size, false) := by
    have := num_at s 0 2 k1.1 k1.2
    rwa [ext_zero] at this
  rw [e1]
  dsimp only
  by_cases k2 : (L s)[2]? = some 58
  case neg =>
    exact numS_bad _ _ (oneS_bad _ _ (numS_bad _ _ (one_bad_at col s 2 (fun c hc => by
      cases hx : (L col).contains c
      · rfl
      · exfalso
        have : c = 58 := by simpa [col, L] using hx
        exact k2 (by rw [hc, this])))))
  rw [one_at col s 2 58 k2 (by decide)]
  dsimp only
  by_cases k3 : 3 + 2 ≤ s.size ∧ (((L s).drop 3).take 2).all dig = true
  case neg => exact numS_bad _ _ (oneS_bad _ _ (num_bad_at s 3 2 k3 (by decide)))
  rw [num_at s 3 2 k3.1 k3.2]
  dsimp only
  by_cases k4 : (L s)[5]? = some 58
  case neg =>
    exact numS_bad _ _ (one_bad_at col s 5 (fun c hc => by
      cases hx : (L col).contains c
      · rfl
      · exfalso
        have : c = 58 := by simpa [col, L] using hx
        exact k4 (by rw [hc, this])))
  rw [one_at col s 5 58 k4 (by decide)]
  dsimp only
  by_cases k5 : 6 + 2 ≤ s.size ∧ (((L s).drop 6).take 2).all dig = true
  case neg => exact num_bad_at s 6 2 k5 (by decide)
  exfalso
  have hl := hms_like (L s) (by rw [L_len]; exact k5.1) (by have := k1.2; rwa [List.drop_zero] at this) k2 k3.2 k4 k5.2
  rw [hl] at h
  cases h
end Go.Proofs.YtlnpfpjncnkekaaGreatDoor

namespace Go.Proofs.YtlnpfpjncnkekaaGreatDoor
open Go.RowKit
set_option maxHeartbeats 1000000
set_option maxRecDepth 100000

theorem dat_like (l : List UInt8) (h : 10 ≤ l.length) (d1 : (l.take 4).all dig = true) (c1 : l[4]? = some 45) (d2 : ((l.drop 5).take 2).all dig = true) (c2 : l[7]? = some 45) (d3 : ((l.drop 8).take 2).all dig = true) : likeB l (L datF) = true := by
  obtain ⟨a0, a1, a2, a3, a4, a5, a6, a7, a8, a9, t, rfl⟩ : ∃ a0 a1 a2 a3 a4 a5 a6 a7 a8 a9 t, l = a0 :: a1 :: a2 :: a3 :: a4 :: a5 :: a6 :: a7 :: a8 :: a9 :: t := by
    match l, h with
    | a0 :: a1 :: a2 :: a3 :: a4 :: a5 :: a6 :: a7 :: a8 :: a9 :: t, _ => exact ⟨a0, a1, a2, a3, a4, a5, a6, a7, a8, a9, t, rfl⟩
  show likeB _ [100, 100, 100, 100, 45, 100, 100, 45, 100, 100] = true
  simp at d1 d2 d3 c1 c2
  subst c1 c2
  simp [likeB, d1, d2, d3]
theorem date_ok (s : ByteArray) (f : Fl) (h : likeB (L s) (L datF) = true) :
    dateS (s, false) f = ((s.extract 10 s.size, false), { f with y := valL 0 ((L s).take 4), mo := valL 0 (((L s).drop 5).take 2), d := valL 0 (((L s).drop 8).take 2) }) := by
  obtain ⟨h10, d1, d2, d3, c1, c2⟩ := dat_digs _ h
  rw [L_len] at h10
  have e1 : numS 4 (s, false) = (valL 0 ((L s).take 4), s.extract 4 s.size, false) := by
    have := num_at s 0 4 (by omega) (by rw [List.drop_zero]; exact d1)
    rw [ext_zero, List.drop_zero] at this
    exact this
  have e2 : oneS dsh (s.extract 4 s.size, false) = (45, s.extract 5 s.size, false) := one_at dsh s 4 45 c1 (by decide)
  have e3 : numS 2 (s.extract 5 s.size, false) = (valL 0 (((L s).drop 5).take 2), s.extract 7 s.size, false) := num_at s 5 2 (by omega) d2
  have e4 : oneS dsh (s.extract 7 s.size, false) = (45, s.extract 8 s.size, false) := one_at dsh s 7 45 c2 (by decide)
  have e5 : numS 2 (s.extract 8 s.size, false) = (valL 0 (((L s).drop 8).take 2), s.extract 10 s.size, false) := num_at s 8 2 (by omega) d3
  unfold dateS
  simp only [e1, e2, e3, e4, e5]
theorem date_no (s : ByteArray) (f : Fl) (h : likeB (L s) (L datF) = false) : (dateS (s, false) f).1.2 = true := by
  show (numS 2 (oneS dsh (numS 2 (oneS dsh (numS 4 (s, false)).2).2).2).2).2.2 = true
  by_cases k1 : 0 + 4 ≤ s.size ∧ (((L s).drop 0).take 4).all dig = true
  case neg =>
    have b1 : (numS 4 (s, false)).2.2 = true := by
      have := num_bad_at s 0 4 k1 (by decide)
      rwa [ext_zero] at this
    exact numS_bad _ _ (oneS_bad _ _ (numS_bad _ _ (oneS_bad _ _ b1)))
  have e1 : numS 4 (s, false) = (valL 0 (((L s).drop 0).take 4), s.extract 4 s.size, false) := by
    have := num_at s 0 4 k1.1 k1.2
    rwa [ext_zero] at this
  rw [e1]
  dsimp only
  by_cases k2 : (L s)[4]? = some 45
  case neg =>
    exact numS_bad _ _ (oneS_bad _ _ (numS_bad _ _ (one_bad_at dsh s 4 (fun c hc => by
      cases hx : (L dsh).contains c
      · rfl
      · exfalso
        have : c = 45 := by simpa [dsh, L] using hx
        exact k2 (by rw [hc, this])))))
  rw [one_at dsh s 4 45 k2 (by decide)]
  dsimp only
  by_cases k3 : 5 + 2 ≤ s.size ∧ (((L s).drop 5).take 2).all dig = true
  case neg => exact numS_bad _ _ (oneS_bad _ _ (num_bad_at s 5 2 k3 (by decide)))
  rw [num_at s 5 2 k3.1 k3.2]
  dsimp only
  by_cases k4 : (L s)[7]? = some 45
  case neg =>
    exact numS_bad _ _ (one_bad_at dsh s 7 (fun c hc => by
      cases hx : (L dsh).contains c
      · rfl
      · exfalso
        have : c = 45 := by simpa [dsh, L] using hx
        exact k4 (by rw [hc, this])))
  rw [one_at dsh s 7 45 k4 (by decide)]
  dsimp only
  by_cases k5 : 8 + 2 ≤ s.size ∧ (((L s).drop 8).take 2).all dig = true
  case neg => exact num_bad_at s 8 2 k5 (by decide)
  exfalso
  have hl := dat_like (L s) (by rw [L_len]; exact k5.1) (by have := k1.2; rwa [List.drop_zero] at this) k2 k3.2 k4 k5.2
  rw [hl] at h
  cases h
/-! A fraction of k digits, filled up with noughts. -/
theorem valL_app : ∀ (l m : List UInt8) (a : Nat), valL a (l ++ m) = valL (valL a l) m
  | [], _, _ => rfl
  | b :: t, m, a => by
    rw [List.cons_append]
    exact valL_app t m _
theorem valL_zeros : ∀ (n a : Nat), valL a (List.replicate n 48) = a * 10 ^ n
  | 0, a => (Nat.mul_one a).symm
  | n + 1, a => by
    rw [List.replicate_succ]
    show valL (10 * a + (48 - 48)) (List.replicate n 48) = _
    rw [Nat.sub_self, Nat.add_zero, valL_zeros n, Nat.pow_succ, Nat.mul_comm 10 a, Nat.mul_assoc, Nat.mul_comm 10]
theorem frac_fill (l : List UInt8) (h : l.length ≤ 9) : valL 0 ((l ++ zer9).take 9) = valL 0 l * 10 ^ (9 - l.length) := by
  have e : zer9 = List.replicate 9 48 := rfl
  rw [e, List.take_append, List.take_of_length_le h, List.take_replicate, valL_app, Nat.min_eq_left (by omega), valL_zeros]
/-- A time of day: the program's way and the reference's. -/
theorem clock_tc (s : ByteArray) (f : Fl) :
    ((tcR (L s)).2.2.1 = false → (clockS (s, false) f).1.2 = true) ∧
    ((tcR (L s)).2.2.1 = true → ∃ s', L s' = (tcR (L s)).2.1 ∧ (clockS (s, false) f).1 = (s', false) ∧ (clockS (s, false) f).2 = { f with ho := valL 0 ((L s).take 2), mi := valL 0 (((L s).drop 3).take 2), se := valL 0 (((L s).drop 6).take 2), na := (clockS (s, false) f).2.na } ∧ (tcR (L s)).1 = hmsN (L s) + (if ((L s).drop 8).head? = some 46 then (clockS (s, false) f).2.na else 0) ∧ (((L s).drop 8).head? ≠ some 46 → (clockS (s, false) f).2.na = f.na) ∧ (tcR (L s)).2.2.2 = hmsI (L s)) := by
  cases hlk : likeB (L s) (L hmsF)
  case false =>
    have ht : tcR (L s) = noC := by unfold tcR; rw [if_pos hlk]
    have hb : (clockS (s, false) f).1.2 = true := by
      unfold clockS
      exact dotS_bad (hmsS (s, false) f) (hms_no s f hlk)
    have hz : (tcR (L s)).2.2.1 = false := by rw [ht]; rfl
    refine ⟨fun _ => hb, fun h => ?_⟩
    rw [hz] at h
    exact absurd h Bool.false_ne_true
  have hh := hms_ok s f hlk
  have hc : clockS (s, false) f = dotS ((s.extract 8 s.size, false), { f with ho := valL 0 ((L s).take 2), mi := valL 0 (((L s).drop 3).take 2), se := valL 0 (((L s).drop 6).take 2) }) := by unfold clockS; rw [hh]
  have hL8 : L (s.extract 8 s.size) = (L s).drop 8 := L_from _ _
  have hL9 : L ((s.extract 8 s.size).extract 1 (s.extract 8 s.size).size) = (L s).drop 9 := by rw [L_from, hL8, List.drop_drop]
  by_cases h46 : ((L s).drop 8).head? = some 46
  case neg =>
    have ht : tcR (L s) = (hmsN (L s), (L s).drop 8, true, hmsI (L s)) := by unfold tcR; rw [if_neg (by rw [hlk]; simp), if_neg h46]
    have hd : clockS (s, false) f = ((s.extract 8 s.size, false), { f with ho := valL 0 ((L s).take 2), mi := valL 0 (((L s).drop 3).take 2), se := valL 0 (((L s).drop 6).take 2) }) := by
      rw [hc]
      unfold dotS
      dsimp only
      rw [hL8, if_neg h46]
    rw [ht, hd]
    refine ⟨fun h => by (dsimp only at h; cases h), fun _ => ⟨_, hL8, rfl, rfl, ?_, fun _ => rfl, rfl⟩⟩
    rw [if_neg h46]
    exact (Nat.add_zero _).symm
  have hd : clockS (s, false) f = ((fracS ((s.extract 8 s.size).extract 1 (s.extract 8 s.size).size, false)).2, { f with ho := valL 0 ((L s).take 2), mi := valL 0 (((L s).drop 3).take 2), se := valL 0 (((L s).drop 6).take 2), na := (fracS ((s.extract 8 s.size).extract 1 (s.extract 8 s.size).size, false)).1 }) := by
    rw [hc]
    unfold dotS
    dsimp only
    rw [hL8, if_pos h46]
  by_cases hk : runL ((L s).drop 9) < 1 ∨ 9 < runL ((L s).drop 9)
  · have ht : tcR (L s) = noC := by unfold tcR; rw [if_neg (by rw [hlk]; simp), if_pos h46, if_pos hk]
    rw [ht, hd]
    refine ⟨fun _ => ?_, fun h => absurd (show (false : Bool) = true from h) (by decide)⟩
    unfold fracS
    dsimp only
    rw [hL9, if_pos hk]
  · have ht : tcR (L s) = (hmsN (L s) + valL 0 ((((L s).drop 9).take (runL ((L s).drop 9)) ++ zer9).take 9), (L s).drop (9 + runL ((L s).drop 9)), true, hmsI (L s)) := by unfold tcR; rw [if_neg (by rw [hlk]; simp), if_pos h46, if_neg hk]
    have hrl := runL_le ((L s).drop 9)
    have hf : fracS ((s.extract 8 s.size).extract 1 (s.extract 8 s.size).size, false) = (valL 0 (((L s).drop 9).take (runL ((L s).drop 9))) * 10 ^ (9 - runL ((L s).drop 9)), s.extract (9 + runL ((L s).drop 9)) s.size, false) := by
      unfold fracS
      dsimp only
      rw [hL9, if_neg hk, ext_ext, ext_ext, show 8 + (1 + runL ((L s).drop 9)) = 9 + runL ((L s).drop 9) by omega]
    have hfl : valL 0 ((((L s).drop 9).take (runL ((L s).drop 9)) ++ zer9).take 9) = valL 0 (((L s).drop 9).take (runL ((L s).drop 9))) * 10 ^ (9 - runL ((L s).drop 9)) := by
      rw [frac_fill _ (by rw [List.length_take]; omega), List.length_take, Nat.min_eq_left hrl]
    rw [ht, hd, hf, hfl]
    refine ⟨fun h => by (dsimp only at h; cases h), fun _ => ⟨_, L_from _ _, rfl, rfl, ?_, fun h => absurd h46 h, rfl⟩⟩
    rw [if_pos h46]
end Go.Proofs.YtlnpfpjncnkekaaGreatDoor

namespace Go.Proofs.YtlnpfpjncnkekaaGreatDoor
open Go.RowKit
set_option maxHeartbeats 1000000
set_option maxRecDepth 100000

theorem off_like (l : List UInt8) (c : UInt8) (hc : c.toNat ≠ 100) (h : 6 ≤ l.length) (h0 : l.head? = some c) (d1 : ((l.drop 1).take 2).all dig = true) (c1 : l[3]? = some 58) (d2 : ((l.drop 4).take 2).all dig = true) : likeB l [c, 100, 100, 58, 100, 100] = true := by
  obtain ⟨a0, a1, a2, a3, a4, a5, t, rfl⟩ : ∃ a0 a1 a2 a3 a4 a5 t, l = a0 :: a1 :: a2 :: a3 :: a4 :: a5 :: t := by
    match l, h with
    | a0 :: a1 :: a2 :: a3 :: a4 :: a5 :: t, _ => exact ⟨a0, a1, a2, a3, a4, a5, t, rfl⟩
  simp at h0 d1 d2 c1
  subst h0 c1
  simp [likeB, hc, d1, d2]
/-- A sign and four digits, in the program's way. -/
theorem off_sign (s : ByteArray) (f : Fl) (c : UInt8) (hc : c = 43 ∨ c = 45) (h0 : (L s)[0]? = some c) :
    (likeB (L s) [c, 100, 100, 58, 100, 100] = true → offS (s, false) f = ((s.extract 6 s.size, false), { f with sg := c.toNat, oh := valL 0 (((L s).drop 1).take 2), om := valL 0 (((L s).drop 4).take 2) })) ∧
    (likeB (L s) [c, 100, 100, 58, 100, 100] = false → (offS (s, false) f).1.2 = true) := by
  have hcs : (L sgn4).contains c = true := by rcases hc with rfl | rfl <;> decide
  have hcn : c.toNat = 43 ∨ c.toNat = 45 := by rcases hc with rfl | rfl <;> simp
  have e0 : oneS sgn4 (s, false) = (c.toNat, s.extract 1 s.size, false) := by
    have := one_at sgn4 s 0 c h0 hcs
    rw [ext_zero] at this
    exact this
  have eo : offS (s, false) f = ((numS 2 (oneS col (numS 2 (s.extract 1 s.size, false)).2).2).2, { f with sg := c.toNat, oh := (numS 2 (s.extract 1 s.size, false)).1, om := (numS 2 (oneS col (numS 2 (s.extract 1 s.size, false)).2).2).1 }) := by
    unfold offS
    rw [e0]
    dsimp only
    rw [if_pos hcn]
  constructor
  · intro h
    obtain ⟨-, d1, c1, d2⟩ := off_digs _ c (by omega) h
    have hl := likeB_len _ _ h
    have hl6 : 6 ≤ s.size := by rw [L_len] at hl; exact hl
    have e3 : numS 2 (s.extract 1 s.size, false) = (valL 0 (((L s).drop 1).take 2), s.extract 3 s.size, false) := num_at s 1 2 (by omega) d1
    have e4 : oneS col (s.extract 3 s.size, false) = (58, s.extract 4 s.size, false) := one_at col s 3 58 c1 (by decide)
    have e5 : numS 2 (s.extract 4 s.size, false) = (valL 0 (((L s).drop 4).take 2), s.extract 6 s.size, false) := num_at s 4 2 (by omega) d2
    rw [eo]
    simp only [e3, e4, e5]
  · intro h
    rw [eo]
    show (numS 2 (oneS col (numS 2 (s.extract 1 s.size, false)).2).2).2.2 = true
    by_cases k1 : 1 + 2 ≤ s.size ∧ (((L s).drop 1).take 2).all dig = true
    case neg => exact numS_bad _ _ (oneS_bad _ _ (num_bad_at s 1 2 k1 (by decide)))
    rw [num_at s 1 2 k1.1 k1.2]
    dsimp only
    by_cases k2 : (L s)[3]? = some 58
    case neg =>
      exact numS_bad _ _ (one_bad_at col s 3 (fun c hc => by
        cases hx : (L col).contains c
        · rfl
        · exfalso
          have : c = 58 := by simpa [col, L] using hx
          exact k2 (by rw [hc, this])))
    rw [one_at col s 3 58 k2 (by decide)]
    dsimp only
    by_cases k3 : 4 + 2 ≤ s.size ∧ (((L s).drop 4).take 2).all dig = true
    case neg => exact num_bad_at s 4 2 k3 (by decide)
    exfalso
    have hl := off_like (L s) c (by omega) (by rw [L_len]; exact k3.1) (by rw [List.head?_eq_getElem?]; exact h0) k1.2 k2 k3.2
    rw [hl] at h
    cases h
/-- No sign, no Z. -/
theorem off_none (s : ByteArray) (f : Fl) (h : ∀ c, (L s)[0]? = some c → (L sgn4).contains c = false) : (offS (s, false) f).1.2 = true := by
  have hb : (oneS sgn4 (s, false)).2.2 = true := by
    have := one_bad_at sgn4 s 0 h
    rw [ext_zero] at this
    exact this
  unfold offS
  split
  · exact numS_bad _ _ (oneS_bad _ _ (numS_bad _ _ hb))
  · exact hb
/-- Z. -/
theorem off_zed (s : ByteArray) (f : Fl) (c : UInt8) (hc : c = 90 ∨ c = 122) (h0 : (L s)[0]? = some c) : offS (s, false) f = ((s.extract 1 s.size, false), { f with sg := c.toNat }) := by
  have hcs : (L sgn4).contains c = true := by rcases hc with rfl | rfl <;> decide
  have hcn : ¬ (c.toNat = 43 ∨ c.toNat = 45) := by rcases hc with rfl | rfl <;> decide
  have e0 : oneS sgn4 (s, false) = (c.toNat, s.extract 1 s.size, false) := by
    have := one_at sgn4 s 0 c h0 hcs
    rw [ext_zero] at this
    exact this
  unfold offS
  rw [e0]
  dsimp only
  rw [if_neg hcn]
end Go.Proofs.YtlnpfpjncnkekaaGreatDoor

namespace Go.Proofs.YtlnpfpjncnkekaaGreatDoor
open Go.RowKit
set_option maxHeartbeats 1000000
set_option maxRecDepth 100000

/-- What the program makes of an offset that ends the string. -/
def offEnd (y : (ByteArray × Bool) × Fl) : Int × Bool × Bool := if y.1.2 = false ∧ L y.1.1 = [] then (offF y.2, true, decide (y.2.oh ≤ 23 ∧ y.2.om ≤ 59)) else (0, false, false)
theorem offEnd_bad (y : (ByteArray × Bool) × Fl) (h : y.1.2 = true) : offEnd y = (0, false, false) := if_neg (fun h' => by rw [h] at h'; exact absurd h'.1 (by decide))
theorem like_head (l : List UInt8) (c : UInt8) (hc : c.toNat ≠ 100) (h : l.head? ≠ some c) : likeB l [c, 100, 100, 58, 100, 100] = false := by
  cases hl : likeB l [c, 100, 100, 58, 100, 100]
  · rfl
  · exact absurd (off_digs l c hc hl).1 h
theorem toR_no (l : List UInt8) (h1 : l ≠ [90]) (h2 : l ≠ [122]) (h3 : l.length ≠ 6 ∨ (likeB l (L plusF) = false ∧ likeB l (L minF) = false)) : toR l = (0, false, false) := by
  unfold toR
  rw [if_neg (fun h => h.elim h1 h2), if_pos h3]
theorem off_toR (s : ByteArray) (f : Fl) (h1 : f.oh = 0) (h2 : f.om = 0) (hne : L s ≠ []) : offEnd (offS (s, false) f) = toR (L s) := by
  obtain ⟨c, t, hl⟩ : ∃ c t, L s = c :: t := by
    cases h : L s with
    | nil => exact absurd h hne
    | cons c t => exact ⟨c, t, rfl⟩
  have h0 : (L s)[0]? = some c := by rw [hl]; rfl
  have hh : (L s).head? = some c := by rw [hl]; rfl
  by_cases hz : c = 90 ∨ c = 122
  · rw [off_zed s f c hz h0]
    have hd : L (s.extract 1 s.size) = t := by rw [L_from, hl]; rfl
    have hcn : c.toNat ≠ 45 := by rcases hz with rfl | rfl <;> decide
    have hp : likeB (L s) (L plusF) = false := like_head _ 43 (by decide) (by rw [hh]; rcases hz with rfl | rfl <;> decide)
    have hm : likeB (L s) (L minF) = false := like_head _ 45 (by decide) (by rw [hh]; rcases hz with rfl | rfl <;> decide)
    unfold offEnd
    dsimp only
    rw [hd]
    by_cases ht : t = []
    · rw [if_pos ⟨rfl, ht⟩]
      have hlz : L s = [90] ∨ L s = [122] := by rw [hl, ht]; rcases hz with rfl | rfl; exact .inl rfl; exact .inr rfl
      unfold toR offF
      rw [if_pos hlz]
      dsimp only
      rw [if_neg hcn, h1, h2]
      rfl
    · rw [if_neg (fun h => ht h.2)]
      refine (toR_no _ ?_ ?_ (.inr ⟨hp, hm⟩)).symm
      · rw [hl]; intro h; injection h with _ h; exact ht h
      · rw [hl]; intro h; injection h with _ h; exact ht h
  have hn9 : L s ≠ [90] := by rw [hl]; intro h; injection h with h _; exact hz (.inl h)
  have hn12 : L s ≠ [122] := by rw [hl]; intro h; injection h with h _; exact hz (.inr h)
  by_cases hs : c = 43 ∨ c = 45
  · obtain ⟨hok, hno⟩ := off_sign s f c hs h0
    have hc100 : c.toNat ≠ 100 := by rcases hs with rfl | rfl <;> decide
    have hother : ∀ b : UInt8, b.toNat ≠ 100 → b ≠ c → likeB (L s) [b, 100, 100, 58, 100, 100] = false := fun b hb hbc => like_head _ b hb (by rw [hh]; intro h; exact hbc (Option.some.inj h).symm)
    cases hk : likeB (L s) [c, 100, 100, 58, 100, 100]
    · rw [offEnd_bad _ (hno hk)]
      refine (toR_no _ hn9 hn12 (.inr ?_)).symm
      rcases hs with rfl | rfl
      · exact ⟨hk, hother 45 (by decide) (by decide)⟩
      · exact ⟨hother 43 (by decide) (by decide), hk⟩
    · rw [hok hk]
      have hd : L (s.extract 6 s.size) = (L s).drop 6 := L_from _ _
      have h6 : 6 ≤ (L s).length := likeB_len _ _ hk
      unfold offEnd
      dsimp only
      rw [hd]
      by_cases hlen : (L s).length = 6
      · rw [if_pos ⟨rfl, List.drop_of_length_le (by omega)⟩]
        have hnn : ¬ ((L s).length ≠ 6 ∨ (likeB (L s) (L plusF) = false ∧ likeB (L s) (L minF) = false)) := by
          rintro (h | ⟨h3, h4⟩)
          · exact h hlen
          · rcases hs with rfl | rfl
            · exact absurd (h3.symm.trans hk) (by decide)
            · exact absurd (h4.symm.trans hk) (by decide)
        have htr : toR (L s) = (if (some c : Option UInt8) = some 45 then -((valL 0 (((L s).drop 1).take 2) * 60 + valL 0 (((L s).drop 4).take 2) : Nat) : Int) else ((valL 0 (((L s).drop 1).take 2) * 60 + valL 0 (((L s).drop 4).take 2) : Nat) : Int), true, decide (valL 0 (((L s).drop 1).take 2) ≤ 23 ∧ valL 0 (((L s).drop 4).take 2) ≤ 59)) := by
          unfold toR
          rw [if_neg (fun h => h.elim hn9 hn12), if_neg hnn, hh]
        rw [htr]
        unfold offF
        dsimp only
        rcases hs with rfl | rfl
        · rw [if_neg (by decide), if_neg (by decide)]
        · rw [if_pos (by decide), if_pos rfl]
      · rw [if_neg]
        · exact (toR_no _ hn9 hn12 (.inl hlen)).symm
        · rintro ⟨-, h⟩
          have := congrArg List.length h
          rw [List.length_drop, List.length_nil] at this
          omega
  · have hb := off_none s f (fun b hb => by
      rw [h0] at hb
      have hbc := Option.some.inj hb
      subst hbc
      cases hx : (L sgn4).contains c
      · rfl
      · exfalso
        have : c = 90 ∨ c = 122 ∨ c = 43 ∨ c = 45 := by simpa [sgn4, L] using hx
        rcases this with h | h | h | h
        · exact hz (.inl h)
        · exact hz (.inr h)
        · exact hs (.inl h)
        · exact hs (.inr h))
    rw [offEnd_bad _ hb]
    exact (toR_no _ hn9 hn12 (.inr ⟨like_head _ 43 (by decide) (by rw [hh]; intro h; exact hs (.inl (Option.some.inj h))), like_head _ 45 (by decide) (by rw [hh]; intro h; exact hs (.inr (Option.some.inj h)))⟩)).symm
end Go.Proofs.YtlnpfpjncnkekaaGreatDoor

namespace Go.Proofs.YtlnpfpjncnkekaaGreatDoor
open Go.RowKit
set_option maxHeartbeats 1000000
set_option maxRecDepth 100000

/-- What the fields are behind a time of day. -/
def ClkF (f : Fl) (c : Nat × List UInt8 × Bool × Bool) (F : Fl) : Prop :=
  F.y = f.y ∧ F.mo = f.mo ∧ F.d = f.d ∧ nanoF F = c.1 ∧ ((23 < F.ho ∨ 59 < F.mi ∨ 59 < F.se) ↔ c.2.2.2 = false) ∧ F.oh = 0 ∧ F.om = 0 ∧ F.sg = 0
theorem clk (s : ByteArray) (f : Fl) (h1 : f.na = 0) (h2 : f.oh = 0) (h3 : f.om = 0) (h4 : f.sg = 0) :
    ((tcR (L s)).2.2.1 = false → (clockS (s, false) f).1.2 = true) ∧
    ((tcR (L s)).2.2.1 = true → ∃ s', L s' = (tcR (L s)).2.1 ∧ (clockS (s, false) f).1 = (s', false) ∧ ClkF f (tcR (L s)) (clockS (s, false) f).2) := by
  obtain ⟨g0, g1⟩ := clock_tc s f
  refine ⟨g0, fun hk => ?_⟩
  obtain ⟨s', e1, e2, e3, e4, e5, e6⟩ := g1 hk
  refine ⟨s', e1, e2, ?_⟩
  obtain ⟨a, ha⟩ : ∃ a, a = (clockS (s, false) f).2.na := ⟨_, rfl⟩
  rw [← ha] at e3 e4 e5
  rw [e3]
  refine ⟨rfl, rfl, rfl, ?_, ?_, h2, h3, h4⟩
  · rw [e4]
    show hmsN (L s) + a = _
    by_cases h46 : ((L s).drop 8).head? = some 46
    · rw [if_pos h46]
    · rw [if_neg h46, e5 h46, h1]
  · rw [e6]
    unfold hmsI
    dsimp only
    rw [decide_eq_false_iff_not]
    omega
theorem off_keep (x : ByteArray × Bool) (f : Fl) : ∃ a b c, (offS x f).2 = { f with sg := a, oh := b, om := c } := by
  unfold offS
  split
  · exact ⟨_, _, _, rfl⟩
  · exact ⟨_, f.oh, f.om, rfl⟩
theorem badF_iff (f : Fl) : badF f = true ↔ (23 < f.ho ∨ 59 < f.mi ∨ 59 < f.se ∨ 23 < f.oh ∨ 59 < f.om) := by
  unfold badF
  exact decide_eq_true_iff
theorem momF_no (kd : Nat) (F : Fl) (h : badF F = true) : momF kd F = (tmZ, 2) := by
  unfold momF
  by_cases hd : kd ≠ 2 ∧ (dayC F.y F.mo F.d).2 ≠ 0
  · rw [if_pos hd]
  · rw [if_neg hd, if_pos h]
theorem momF_day (kd : Nat) (F : Fl) (hk : kd ≠ 2) (h : (dayC F.y F.mo F.d).2 ≠ 0) : momF kd F = (tmZ, 2) := by
  unfold momF
  rw [if_pos ⟨hk, h⟩]
theorem momF_ok (kd : Nat) (F : Fl) (hk : kd = 2 ∨ (dayC F.y F.mo F.d).2 = 0) (h : badF F = false) : momF kd F = ([.int .i64 (kd : Int), .int .i64 ((if kd = 2 then 0 else (dayC F.y F.mo F.d).1 : Nat) : Int), .int .i64 (nanoF F : Int), .int .i64 (offF F)], 0) := by
  have h1 : ¬ (kd ≠ 2 ∧ (dayC F.y F.mo F.d).2 ≠ 0) := fun h => hk.elim h.1 h.2
  have h2 : ¬ (badF F = true) := by rw [h]; decide
  unfold momF
  rw [if_neg h1, if_neg h2]
theorem clkF_bad {f F : Fl} {c : Nat × List UInt8 × Bool × Bool} (h : ClkF f c F) : badF F = !c.2.2.2 := by
  obtain ⟨-, -, -, -, hb, h1, h2, -⟩ := h
  cases hi : c.2.2.2
  · have := hb.mpr hi
    exact (badF_iff F).mpr (by omega)
  · cases hx : badF F
    · rfl
    · exfalso
      rw [badF_iff] at hx
      have hno : ¬ (23 < F.ho ∨ 59 < F.mi ∨ 59 < F.se) := fun h => by rw [hb.mp h] at hi; cases hi
      omega
theorem clkF_off {f F : Fl} {c : Nat × List UInt8 × Bool × Bool} (h : ClkF f c F) : offF F = 0 := by
  obtain ⟨-, -, -, -, -, h1, h2, h3⟩ := h
  unfold offF
  rw [h1, h2, h3]
  rfl
/-- A clock alone. -/
theorem mom2 (c : Nat × List UInt8 × Bool × Bool) (F : Fl) (h : ClkF fl0 c F) (hk : c.2.2.1 = true) (he : c.2.1 = []) : momF 2 F = clockR c := by
  have eA : clockR c = if c.2.2.2 = false then (tmZ, 2) else (tmV 2 0 (c.1 : Nat) 0, 0) := if_neg (fun h => h.elim (fun h => by rw [hk] at h; cases h) (fun h => h he))
  have hb := clkF_bad h
  rw [eA]
  cases hi : c.2.2.2
  · rw [hi] at hb
    rw [if_pos rfl]
    exact momF_no 2 F hb
  · rw [hi] at hb
    rw [if_neg (show ¬ (true = false) by decide), momF_ok 2 F (.inl rfl) hb, clkF_off h, h.2.2.2.1]
    rfl
theorem mom3 (f : Fl) (c : Nat × List UInt8 × Bool × Bool) (F : Fl) (h : ClkF f c F) (hk : c.2.2.1 = true) (he : c.2.1 = []) : momF 3 F = afterR (dayC f.y f.mo f.d) c := by
  have eA : afterR (dayC f.y f.mo f.d) c = if (dayC f.y f.mo f.d).2 ≠ 0 ∨ c.2.2.2 = false then (tmZ, 2) else (tmV 3 ((dayC f.y f.mo f.d).1 : Nat) (c.1 : Nat) 0, 0) := by
    unfold afterR
    rw [if_neg (by rw [hk]; decide), if_pos he]
  have eD : dayC F.y F.mo F.d = dayC f.y f.mo f.d := by rw [h.1, h.2.1, h.2.2.1]
  have hb := clkF_bad h
  rw [eA]
  by_cases hd : (dayC f.y f.mo f.d).2 = 0
  · cases hi : c.2.2.2
    · rw [hi] at hb
      rw [if_pos (.inr rfl)]
      exact momF_no 3 F hb
    · rw [hi] at hb
      have hn : ¬ ((dayC f.y f.mo f.d).2 ≠ 0 ∨ true = false) := fun h => h.elim (fun h => h hd) (fun h => by cases h)
      rw [if_neg hn, momF_ok 3 F (.inr (by rw [eD]; exact hd)) hb, clkF_off h, h.2.2.2.1, eD]
      rfl
  · rw [if_pos (.inl hd)]
    exact momF_day 3 F (by decide) (by rw [eD]; exact hd)
theorem mom4 (f : Fl) (c : Nat × List UInt8 × Bool × Bool) (F G : Fl) (h : ClkF f c F) (hk : c.2.2.1 = true) (he : c.2.1 ≠ []) (hr : toR c.2.1 = (offF G, true, decide (G.oh ≤ 23 ∧ G.om ≤ 59))) (hG : ∃ x y z, G = { F with sg := x, oh := y, om := z }) : momF 4 G = afterR (dayC f.y f.mo f.d) c := by
  have eA : afterR (dayC f.y f.mo f.d) c = if (dayC f.y f.mo f.d).2 ≠ 0 ∨ (c.2.2.2 && decide (G.oh ≤ 23 ∧ G.om ≤ 59)) = false then (tmZ, 2) else (tmV 4 ((dayC f.y f.mo f.d).1 : Nat) (c.1 : Nat) (offF G), 0) := by
    unfold afterR
    rw [if_neg (show ¬ c.2.2.1 = false by rw [hk]; decide), if_neg he, hr, if_neg (show ¬ (true = false) by decide)]
  have hb := clkF_bad h
  obtain ⟨e1, e2, e3, hn, hbb, h1, h2, h3⟩ := h
  obtain ⟨g1, g2, g3, g4, g5, g6, g7⟩ : G.y = F.y ∧ G.mo = F.mo ∧ G.d = F.d ∧ nanoF G = nanoF F ∧ G.ho = F.ho ∧ G.mi = F.mi ∧ G.se = F.se := by
    obtain ⟨x, y, z, rfl⟩ := hG
    exact ⟨rfl, rfl, rfl, rfl, rfl, rfl, rfl⟩
  have eD : dayC G.y G.mo G.d = dayC f.y f.mo f.d := by rw [g1, g2, g3, e1, e2, e3]
  have hbG : badF G = !(c.2.2.2 && decide (G.oh ≤ 23 ∧ G.om ≤ 59)) := by
    have hx := badF_iff G
    rw [g5, g6, g7] at hx
    cases hi : c.2.2.2
    · have := hbb.mpr hi
      exact hx.mpr (by omega)
    · have hno : ¬ (23 < F.ho ∨ 59 < F.mi ∨ 59 < F.se) := fun h => by rw [hbb.mp h] at hi; cases hi
      by_cases ho : G.oh ≤ 23 ∧ G.om ≤ 59
      · rw [decide_eq_true ho]
        show badF G = false
        cases hy : badF G
        · rfl
        · have := hx.mp hy
          omega
      · rw [decide_eq_false ho]
        exact hx.mpr (by omega)
  rw [eA]
  by_cases hd : (dayC f.y f.mo f.d).2 = 0
  · cases hi : (c.2.2.2 && decide (G.oh ≤ 23 ∧ G.om ≤ 59))
    · rw [hi] at hbG
      rw [if_pos (.inr rfl)]
      exact momF_no 4 G hbG
    · rw [hi] at hbG
      have hn' : ¬ ((dayC f.y f.mo f.d).2 ≠ 0 ∨ true = false) := fun h => h.elim (fun h => h hd) (fun h => by cases h)
      rw [if_neg hn', momF_ok 4 G (.inr (by rw [eD]; exact hd)) hbG, g4, hn, eD]
      rfl
  · rw [if_pos (.inl hd)]
    exact momF_day 4 G (by decide) (by rw [eD]; exact hd)
end Go.Proofs.YtlnpfpjncnkekaaGreatDoor

namespace Go.Proofs.YtlnpfpjncnkekaaGreatDoor
open Go.RowKit
set_option maxHeartbeats 1000000
set_option maxRecDepth 100000

theorem form_clk (x : ByteArray × Bool) (f : Fl) (h : (L x.1)[2]? = some 58) : formS x f = (2, clockS x f) := by
  unfold formS
  rw [if_pos h]
theorem form_one (x : ByteArray × Bool) (f : Fl) (h : (L x.1)[2]? ≠ some 58) (h0 : L (dateS x f).1.1 = []) : formS x f = (1, dateS x f) := by
  unfold formS
  rw [if_neg h, if_pos h0]
theorem form_three (x : ByteArray × Bool) (f : Fl) (h : (L x.1)[2]? ≠ some 58) (h0 : L (dateS x f).1.1 ≠ []) (h1 : L (clockS (oneS sepT (dateS x f).1).2 (dateS x f).2).1.1 = []) : formS x f = (3, (clockS (oneS sepT (dateS x f).1).2 (dateS x f).2)) := by
  unfold formS
  rw [if_neg h, if_neg h0, if_pos h1]
theorem form_four (x : ByteArray × Bool) (f : Fl) (h : (L x.1)[2]? ≠ some 58) (h0 : L (dateS x f).1.1 ≠ []) (h1 : L (clockS (oneS sepT (dateS x f).1).2 (dateS x f).2).1.1 ≠ []) : formS x f = (4, offS (clockS (oneS sepT (dateS x f).1).2 (dateS x f).2).1 (clockS (oneS sepT (dateS x f).1).2 (dateS x f).2).2) := by
  unfold formS
  rw [if_neg h, if_neg h0, if_neg h1]
theorem form_sep (x : ByteArray × Bool) (f : Fl) (h : (L x.1)[2]? ≠ some 58) (h0 : L (dateS x f).1.1 ≠ []) (hb : (clockS (oneS sepT (dateS x f).1).2 (dateS x f).2).1.2 = true) : (formS x f).2.1.2 = true := by
  have e3 := form_three x f h h0
  have e4 := form_four x f h h0
  generalize (clockS (oneS sepT (dateS x f).1).2 (dateS x f).2) = y at e3 e4 hb
  by_cases c2 : L y.1.1 = []
  · rw [e3 c2]
    exact hb
  · have hx := offS_bad y.1 y.2 hb
    have e := e4 c2
    generalize offS y.1 y.2 = z at e hx
    rw [e]
    exact hx
theorem form_bad (x : ByteArray × Bool) (f : Fl) (h : (L x.1)[2]? ≠ some 58) (hb : (dateS x f).1.2 = true) : (formS x f).2.1.2 = true := by
  by_cases c1 : L (dateS x f).1.1 = []
  · exact (congrArg (fun z => z.2.1.2) (form_one x f h c1)).trans hb
  · exact form_sep x f h c1 (clockS_bad _ _ (oneS_bad sepT _ hb))
theorem timB_bad (s : ByteArray) (h : (formS (s, false) fl0).2.1.2 = true) : timB s = false := by
  unfold timB
  rw [h, Bool.not_true, Bool.false_and]
theorem timB_of (s : ByteArray) (n : Nat) (y : (ByteArray × Bool) × Fl) (h : formS (s, false) fl0 = (n, y)) : timB s = (!y.1.2 && decide (L y.1.1 = [])) := by
  unfold timB
  rw [h]
def Res (s : ByteArray) : Prop := (timB s = false ∧ (rpR (L s)).2 = 3) ∨ (timB s = true ∧ momF (formS (s, false) fl0).1 (formS (s, false) fl0).2.2 = rpR (L s))
theorem res_no (s : ByteArray) (hl : likeB (L s) (L datF) = false) : Res s := by
  have hr : rpR (L s) = clockR (tcR (L s)) := if_pos hl
  unfold Res
  rw [hr]
  by_cases h58 : (L s)[2]? = some 58
  · have hf := form_clk (s, false) fl0 h58
    obtain ⟨g0, g1⟩ := clk s fl0 rfl rfl rfl rfl
    cases hk : (tcR (L s)).2.2.1
    · refine .inl ⟨timB_bad s (by rw [hf]; exact g0 hk), ?_⟩
      unfold clockR
      rw [if_pos (.inl hk)]
    · obtain ⟨s', e1, e2, e3⟩ := g1 hk
      have ht := timB_of s 2 _ hf
      rw [e2] at ht
      dsimp only at ht
      rw [e1] at ht
      by_cases he : (tcR (L s)).2.1 = []
      · rw [decide_eq_true he] at ht
        refine .inr ⟨ht, ?_⟩
        rw [hf]
        exact mom2 _ _ e3 hk he
      · rw [decide_eq_false he] at ht
        refine .inl ⟨ht, ?_⟩
        unfold clockR
        rw [if_pos (.inr he)]
  · refine .inl ⟨timB_bad s (form_bad (s, false) fl0 h58 (date_no s fl0 hl)), ?_⟩
    have hh : likeB (L s) (L hmsF) = false := by
      cases hx : likeB (L s) (L hmsF)
      · rfl
      · exact absurd (hms_digs _ hx).2.2.2.2.1 h58
    have ht : tcR (L s) = noC := if_pos hh
    rw [ht]
    rfl
theorem dat_58 (l : List UInt8) (h : likeB l (L datF) = true) : l[2]? ≠ some 58 := by
  obtain ⟨h10, d1, -⟩ := dat_digs l h
  match l, h10 with
  | a0 :: a1 :: a2 :: a3 :: t, _ =>
    intro hx
    have : a2 = 58 := by simpa using hx
    subst this
    simp [dig] at d1
theorem sep_has (b : UInt8) : (L sepT).contains b = true ↔ (b.toNat = 84 ∨ b.toNat = 116 ∨ b.toNat = 32) := by
  have e : L sepT = [84, 116, 32] := rfl
  rw [e]
  constructor
  · intro hx
    have : b = 84 ∨ b = 116 ∨ b = 32 := by simpa using hx
    rcases this with rfl | rfl | rfl
    · exact .inl rfl
    · exact .inr (.inl rfl)
    · exact .inr (.inr rfl)
  · intro hx
    have : b = 84 ∨ b = 116 ∨ b = 32 := hx.imp (fun h => UInt8.toNat_inj.mp h) (fun h => h.imp (fun h => UInt8.toNat_inj.mp h) (fun h => UInt8.toNat_inj.mp h))
    rcases this with rfl | rfl | rfl <;> rfl
theorem res_yes (s : ByteArray) (hl : likeB (L s) (L datF) = true) : Res s := by
  have h58 := dat_58 _ hl
  have hd := date_ok s fl0 hl
  obtain ⟨F, hF⟩ : ∃ F : Fl, F = { fl0 with y := valL 0 ((L s).take 4), mo := valL 0 (((L s).drop 5).take 2), d := valL 0 (((L s).drop 8).take 2) } := ⟨_, rfl⟩
  rw [← hF] at hd
  have hr : rpR (L s) = datedR (dayC F.y F.mo F.d) ((L s).drop 10) := by
    unfold rpR
    rw [if_neg (by rw [hl]; decide), hF]
  obtain ⟨hz1, hz2, hz3, hz4⟩ : F.na = 0 ∧ F.oh = 0 ∧ F.om = 0 ∧ F.sg = 0 := by rw [hF]; exact ⟨rfl, rfl, rfl, rfl⟩
  have hzz : badF F = false ∧ nanoF F = 0 ∧ offF F = 0 := by
    obtain ⟨z1, z2, z3, z4, z5, z6, z7⟩ : F.ho = 0 ∧ F.mi = 0 ∧ F.se = 0 ∧ F.oh = 0 ∧ F.om = 0 ∧ F.na = 0 ∧ F.sg = 0 := by rw [hF]; exact ⟨rfl, rfl, rfl, rfl, rfl, rfl, rfl⟩
    clear hF
    refine ⟨?_, ?_, ?_⟩
    · unfold badF
      rw [z1, z2, z3, z4, z5]
      rfl
    · unfold nanoF
      rw [z1, z2, z3, z6]
    · unfold offF
      rw [z4, z5, z7]
      rfl
  clear hF
  have hL : L (s.extract 10 s.size) = (L s).drop 10 := L_from _ _
  unfold Res
  rw [hr]
  cases h10 : (L s).drop 10 with
  | nil =>
    rw [h10] at hL
    have hf : formS (s, false) fl0 = (1, (s.extract 10 s.size, false), F) := by
      unfold formS
      rw [if_neg h58, hd, if_pos hL]
    have ht := timB_of s 1 _ hf
    dsimp only at ht
    rw [decide_eq_true hL] at ht
    refine .inr ⟨ht, ?_⟩
    rw [hf]
    show momF 1 F = if (dayC F.y F.mo F.d).2 ≠ 0 then (tmZ, (dayC F.y F.mo F.d).2) else (tmV 1 ((dayC F.y F.mo F.d).1 : Nat) 0 0, 0)
    by_cases h0 : (dayC F.y F.mo F.d).2 = 0
    · rw [if_neg (fun h => h h0), momF_ok 1 F (.inr h0) hzz.1, hzz.2.1, hzz.2.2]
      rfl
    · rw [if_pos h0, momF_day 1 F (by decide) h0]
      unfold dayC at h0 ⊢
      split
      · rfl
      · rename_i hx
        rw [if_neg hx] at h0
        exact absurd rfl h0
  | cons b t =>
    have hne : L (dateS (s, false) fl0).1.1 ≠ [] := by rw [hd]; dsimp only; rw [hL, h10]; exact fun h => by cases h
    have h0 : (L s)[10]? = some b := by
      have : ((L s).drop 10)[0]? = some b := by rw [h10]; rfl
      rwa [List.getElem?_drop] at this
    by_cases hs : b.toNat = 84 ∨ b.toNat = 116 ∨ b.toNat = 32
    · have ho := one_at sepT s 10 b h0 ((sep_has b).mpr hs)
      have hdr : datedR (dayC F.y F.mo F.d) (b :: t) = afterR (dayC F.y F.mo F.d) (tcR t) := if_pos hs
      have hLt : L (s.extract (10 + 1) s.size) = t := by
        rw [L_from, ← List.drop_drop, h10]
        rfl
      rw [hdr]
      have hcl : clockS (oneS sepT (dateS (s, false) fl0).1).2 (dateS (s, false) fl0).2 = clockS (s.extract (10 + 1) s.size, false) F := by rw [hd, ho]
      obtain ⟨g0, g1⟩ := clk (s.extract (10 + 1) s.size) F hz1 hz2 hz3 hz4
      rw [hLt] at g0 g1
      cases hk : (tcR t).2.2.1
      · refine .inl ⟨timB_bad s (form_sep (s, false) fl0 h58 hne (by rw [hcl]; exact g0 hk)), ?_⟩
        unfold afterR
        rw [if_pos hk]
      · obtain ⟨s', e1, e2, e3⟩ := g1 hk
        by_cases he : (tcR t).2.1 = []
        · have hf : formS (s, false) fl0 = (3, clockS (s.extract (10 + 1) s.size, false) F) := by
            unfold formS
            rw [if_neg h58, if_neg hne, hcl, if_pos (by rw [e2]; exact e1.trans he)]
          have ht := timB_of s 3 _ hf
          rw [e2] at ht
          dsimp only at ht
          rw [e1, decide_eq_true he] at ht
          refine .inr ⟨ht, ?_⟩
          rw [hf]
          exact mom3 F _ _ e3 hk he
        · have hf : formS (s, false) fl0 = (4, offS (s', false) (clockS (s.extract (10 + 1) s.size, false) F).2) := by
            unfold formS
            rw [if_neg h58, if_neg hne, hcl, if_neg (by rw [e2]; exact fun h => he (e1.symm.trans h)), e2]
          have ht := timB_of s 4 _ hf
          have hoe := off_toR s' (clockS (s.extract (10 + 1) s.size, false) F).2 e3.2.2.2.2.2.1 e3.2.2.2.2.2.2.1 (by rw [e1]; exact he)
          rw [e1] at hoe
          have hkp := off_keep (s', false) (clockS (s.extract (10 + 1) s.size, false) F).2
          generalize hY : offS (s', false) (clockS (s.extract (10 + 1) s.size, false) F).2 = Y at *
          unfold offEnd at hoe
          by_cases hok : Y.1.2 = false ∧ L Y.1.1 = []
          · rw [if_pos hok] at hoe
            refine .inr ⟨?_, ?_⟩
            · rw [ht, hok.1, decide_eq_true hok.2]
              rfl
            · rw [hf]
              exact mom4 F _ _ Y.2 e3 hk he hoe.symm hkp
          · rw [if_neg hok] at hoe
            refine .inl ⟨?_, ?_⟩
            · rw [ht]
              cases hb : Y.1.2
              · rw [decide_eq_false (fun h => hok ⟨hb, h⟩)]
                rfl
              · rfl
            · unfold afterR
              rw [if_neg (by rw [hk]; decide), if_neg he, ← hoe, if_pos rfl]
    · have ho : (oneS sepT (s.extract 10 s.size, false)).2.2 = true := one_bad_at sepT s 10 (fun c hc => by
        rw [h0] at hc
        have := Option.some.inj hc
        subst this
        cases hx : (L sepT).contains b
        · rfl
        · exact absurd ((sep_has b).mp hx) hs)
      refine .inl ⟨timB_bad s (form_sep (s, false) fl0 h58 hne (clockS_bad _ _ (by rw [hd]; exact ho))), ?_⟩
      show (if b.toNat = 84 ∨ b.toNat = 116 ∨ b.toNat = 32 then afterR (dayC F.y F.mo F.d) (tcR t) else (tmZ, 3)).2 = 3
      rw [if_neg hs]
/-- Both parsers answer alike. -/
theorem par_same (s : ByteArray) : Res s := by
  cases hl : likeB (L s) (L datF)
  · exact res_no s hl
  · exact res_yes s hl
end Go.Proofs.YtlnpfpjncnkekaaGreatDoor

namespace Go.Proofs.YtlnpfpjncnkekaaGreatDoor
open Go.RowKit
set_option maxHeartbeats 4000000
set_option maxRecDepth 100000

/-- The date of a day. -/
structure DateIs (n y m d : Nat) : Prop where
  y1 : 1 ≤ y
  y2 : y ≤ 9999
  m1 : 1 ≤ m
  m2 : m ≤ 12
  d1 : 1 ≤ d
  d2 : d ≤ monC y m
  eq : startC y + sumM y (m - 1) + d = n + 1
theorem DateIs.day {n y m d : Nat} (h : DateIs n y m d) : dayC y m d = (n, 0) := by
  have h1 := h.d1
  have h2 := h.d2
  have h3 := h.eq
  unfold dayC
  rw [if_neg (by omega)]
  congr 1
  omega
theorem sumM_mono (y : Nat) : ∀ {a b : Nat}, a ≤ b → sumM y a ≤ sumM y b := by
  intro a b h
  induction h with
  | refl => exact Nat.le_refl _
  | step _ ih => exact Nat.le_trans ih (by rw [sumM]; omega)
theorem startC_mono : ∀ {a b : Nat}, 1 ≤ a → a ≤ b → b ≤ 10000 → startC a ≤ startC b := by
  intro a b h1 h hb
  induction h with
  | refl => exact Nat.le_refl _
  | @step k hk ih =>
    refine Nat.le_trans (ih (by omega)) ?_
    rw [len_year k (by have : a ≤ k := hk; omega) (by omega)]
    omega
theorem start_top : startC 10000 = 3652059 := by decide +kernel
theorem sum_in {y m d : Nat} (m1 : 1 ≤ m) (m2 : m ≤ 12) (d2 : d ≤ monC y m) : sumM y (m - 1) + d ≤ sumM y 12 := by
  have h := sumM_mono y (a := m) (b := 12) m2
  obtain ⟨k, rfl⟩ : ∃ k, m = k + 1 := ⟨m - 1, by omega⟩
  rw [sumM] at h
  rw [Nat.add_sub_cancel]
  omega
theorem DateIs.same {n y m d y' m' d' : Nat} (h : DateIs n y m d) (h' : DateIs n y' m' d') : y = y' ∧ m = m' ∧ d = d' := by
  have key : ∀ {y m d y' m' d' : Nat}, DateIs n y m d → DateIs n y' m' d' → ¬ y < y' := by
    intro y m d y' m' d' h h' hlt
    have h1 := startC_mono (a := y + 1) (b := y') (by omega) hlt (by have := h'.y2; omega)
    rw [len_year y h.y1 h.y2] at h1
    have h2 := sum_in h.m1 h.m2 h.d2
    have h3 := h.eq
    have h4 := h'.eq
    have h5 := h'.d1
    omega
  have hy : y = y' := by
    have a := key h h'
    have b := key h' h
    omega
  subst hy
  have key2 : ∀ {m d m' d' : Nat}, DateIs n y m d → DateIs n y m' d' → ¬ m < m' := by
    intro m d m' d' h h' hlt
    have h1 := sumM_mono y (a := m) (b := m' - 1) (by omega)
    obtain ⟨k, hk⟩ : ∃ k, m = k + 1 := ⟨m - 1, by have := h.m1; omega⟩
    have h3 := h.eq
    have h4 := h'.eq
    have h5 := h'.d1
    have h6 := h.d2
    subst hk
    rw [sumM] at h1
    rw [Nat.add_sub_cancel] at h3
    omega
  have hm : m = m' := by
    have a := key2 h h'
    have b := key2 h' h
    omega
  subst hm
  have h3 := h.eq
  have h4 := h'.eq
  exact ⟨rfl, rfl, by omega⟩
theorem known_any (n : Nat) (w : World) (h : n ≤ 3652058) :
    Calls Tryz.prog 152 #[.int .i64 (n : Int)] w fun e w' => e = .returned (.bool true) ∧ w = w' := by
  have h0 : (0 : Int) ≤ (n : Int) := by omega
  have h1 : ((n : Int) ≤ 3652058) = True := eq_true (by omega)
  go_enter Tryz.func152, Tryz.ntmps152
  go_wp2_with fail
  go_ret
  exact ⟨rfl, rfl⟩
def DatePost (w : World) (n : Nat) (e : Ending) (w' : World) : Prop := (∃ y m d : Nat, DateIs n y m d ∧ e = .returned (.tuple #[.int .i64 (y : Int), .int .i64 (m : Int), .int .i64 (d : Int), .int .i64 0])) ∧ Below w.heap.size w w'
theorem Date_any (n : Nat) (w : World) (h : n ≤ 3652058) :
    Calls Tryz.prog 98 #[.int .i64 (n : Int)] w (DatePost w n) := by
  have HKN := Lib.hid (fun w' => known_any n w' h)
  go_enter Tryz.func98, Tryz.ntmps98
  go_wp2_with (go_at_call 152; refine (HKN.out _).mono ?_; rintro e w' ⟨rfl, rfl⟩)
  go_loopw [2] (fun yv wr => ∃ y : Nat, yv = .int .i64 (y : Int) ∧ 1 ≤ y ∧ y ≤ 9999 ∧ startC y ≤ n ∧ w = wr) (fun yv _ => 9999 - (intOf yv).toNat)
  case atStart =>
    refine ⟨n / 366 + 1, congrArg (Value.int .i64) (by omega), by omega, by omega, ?_, rfl⟩
    unfold startC
    rw [Nat.add_sub_cancel]
    omega
  case round =>
    obtain ⟨y, rfl, hy1, hy2, hst, rfl⟩ := hrel
    go_upto_region 4 with fail
    go_cut [21] (fun v wx => v = .bool (decide (y < 9999 ∧ startC (y + 1) ≤ n)) ∧ w = wx)
    case first =>
      by_cases hlt : y < 9999
      case neg =>
        obtain rfl : y = 9999 := by omega
        have HF : Hid (decide (9999 < 9999 ∧ startC (9999 + 1) ≤ n) = false) := decide_eq_false (fun h => absurd h.1 (Nat.lt_irrefl _))
        clear hst
        go_wp2_with fail
        go_meet
        exact ⟨by rw [HF.out], rfl⟩
      have HS := Lib.hid (fun w' => start_any (y + 1) w' (by omega) (by omega))
      have hi : (y : Int) < 9999 := by omega
      by_cases hs : startC (y + 1) ≤ n
      · have HF : Hid (decide (y < 9999 ∧ startC (y + 1) ≤ n) = true) := decide_eq_true ⟨hlt, hs⟩
        have hsi : (((startC (y + 1) : Nat) : Int) ≤ (n : Int)) = True := eq_true (by omega)
        clear hst hlt hs
        generalize hSC : startC (y + 1) = sc at *
        rw [show ((y + 1 : Nat) : Int) = (y : Int) + 1 by omega] at HS
        go_wp2_with (go_at_call 126; refine (HS.out _).mono ?_; rintro e w' ⟨rfl, rfl⟩)
        go_meet
        exact ⟨by rw [HF.out], rfl⟩
      · have HF : Hid (decide (y < 9999 ∧ startC (y + 1) ≤ n) = false) := decide_eq_false (fun h => hs h.2)
        have hsi : (((startC (y + 1) : Nat) : Int) ≤ (n : Int)) = False := eq_false (by omega)
        clear hst hlt hs
        generalize hSC : startC (y + 1) = sc at *
        rw [show ((y + 1 : Nat) : Int) = (y : Int) + 1 by omega] at HS
        go_wp2_with (go_at_call 126; refine (HS.out _).mono ?_; rintro e w' ⟨rfl, rfl⟩)
        go_meet
        exact ⟨by rw [HF.out], rfl⟩
    case rest =>
    obtain ⟨rfl, rfl⟩ := hcut
    by_cases hc : y < 9999 ∧ startC (y + 1) ≤ n
    · rw [decide_eq_true hc]
      have HC := Lib.hid hc
      clear hc
      go_wp2_with fail
      have hc := HC.out
      exact ⟨⟨y + 1, by go_num, by omega, by omega, hc.2, trivial⟩, by simp [intOf]; omega⟩
    rw [decide_eq_false hc]
    have hnext : n < startC (y + 1) := by
      by_cases h9 : y < 9999
      · have := fun h => hc ⟨h9, h⟩
        omega
      · obtain rfl : y = 9999 := by omega
        rw [show 9999 + 1 = 10000 from rfl, start_top]
        omega
    rw [len_year y hy1 hy2] at hnext
    obtain ⟨r, hr⟩ : ∃ r, r = n - startC y := ⟨_, rfl⟩
    have hrl : r < sumM y 12 := by omega
    have hri : ((n : Int) - ((startC y : Nat) : Int)) = (r : Int) := by omega
    have hS12 := sumM_le y 12
    have HS := Lib.hid (fun w' => start_any y w' hy1 hy2)
    have HM := Lib.hid (fun m w' hm => Month_any y m w' (by omega) hm)
    have HST : Hid (startC y + r = n) := by unfold Hid; omega
    have HRL := Lib.hid hrl
    clear hc hnext hr hrl hst
    generalize hsce : startC y = sc at *
    have HSCE := Lib.hid hsce
    clear hsce
    go_wp2_with (go_at_call 126; refine (HS.out _).mono ?_; rintro e w' ⟨rfl, rfl⟩)
    clear hri
    go_loopw [3, 6] (fun mv rv wr => ∃ m q : Nat, mv = .int .i64 (m : Int) ∧ rv = .int .i64 (q : Int) ∧ 1 ≤ m ∧ m ≤ 12 ∧ q + sumM y (m - 1) = r ∧ Hid (Below w.heap.size w wr)) (fun mv _ _ => 12 - (intOf mv).toNat)
    case atStart => exact ⟨1, r, rfl, rfl, Nat.le_refl _, by decide, rfl, Below.refl _ _⟩
    case round =>
      obtain ⟨m, q, rfl, rfl, hm1, hm2, hq, HBW⟩ := hrel
      have HMM := Lib.hid (fun w' => HM.out m w' (by omega))
      have hsm : sumM y m = sumM y (m - 1) + monC y m := by
        obtain ⟨k, rfl⟩ : ∃ k, m = k + 1 := ⟨m - 1, by omega⟩
        rw [sumM, Nat.add_sub_cancel]
      have hrl := HRL.out
      have hmc := monC_le y m
      have hqb : q ≤ 372 := by omega
      by_cases hge : monC y m ≤ q
      · have hm12 : m < 12 := by
          rcases Nat.lt_or_ge m 12 with h12 | h12
          · exact h12
          · obtain rfl : m = 12 := by omega
            omega
        have hgi : ((monC y m : Nat) : Int) ≤ (q : Int) := by omega
        have HQ : Hid (q - monC y m + sumM y m = r) := by unfold Hid; omega
        have hqi : ((q : Int) - ((monC y m : Nat) : Int)) = ((q - monC y m : Nat) : Int) := by omega
        clear hsm hrl hq
        generalize hmcg : monC y m = mc at *
        clear hmcg
        have hwr : wrap64 ((q : Int) - (mc : Int)) = ((q - mc : Nat) : Int) := by rw [IntWalk.wrap64_in _ (by omega)]; omega
        go_wp2_with (go_at_call 125; refine (HMM.out _).mono ?_; rintro e w9 ⟨rfl, hb9⟩; replace HBW := Lib.hid (HBW.out.trans (hb9.mono HBW.out.size)); clear hb9)
        exact ⟨⟨m + 1, q - mc, by go_num, congrArg (Value.int .i64) (by first | rfl | omega), by omega, by omega, by rw [Nat.add_sub_cancel]; exact HQ.out, HBW.out⟩, by simp [intOf]; omega⟩
      · have hgi : ¬ ((monC y m : Nat) : Int) ≤ (q : Int) := by omega
        have HD : Hid (DateIs n y m (q + 1)) := by
          refine ⟨hy1, hy2, hm1, hm2, by omega, by omega, ?_⟩
          have := HST.out
          have := HSCE.out
          omega
        clear hsm hrl hq
        generalize hmcg : monC y m = mc at *
        clear hmcg
        go_wp2_with (go_at_call 125; refine (HMM.out _).mono ?_; rintro e w9 ⟨rfl, hb9⟩; replace HBW := Lib.hid (HBW.out.trans (hb9.mono HBW.out.size)); clear hb9)
        refine bodyPost_ret (v := .tuple #[.int .i64 (y : Int), .int .i64 (m : Int), .int .i64 ((q + 1 : Nat) : Int), .int .i64 0]) (by simp [results, Tryz.results98, go_sem]) rfl ⟨⟨y, m, q + 1, HD.out, rfl⟩, HBW.out⟩
end Go.Proofs.YtlnpfpjncnkekaaGreatDoor
