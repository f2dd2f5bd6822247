/- datakitref02.Valid, datakitref05.Valid, datakitref07.own walked. Conditions: none. -/
import Derived.Test.YtlnpfpjncnkekaaGreatDoorZt21
import Derived.Test.YtlnpfpjncnkekaaGreatDoorZt22
namespace Go.Proofs.YtlnpfpjncnkekaaGreatDoor
open Go.RowKit
set_option maxHeartbeats 1000000
set_option maxRecDepth 100000

theorem isEh {s : ByteArray} : (s.toList.isEmpty = true ↔ L s = []) := by rw [toList_L, List.isEmpty_iff]
theorem Valid2_any (neg : Bool) (s : ByteArray) (e : Int) (w : World) (hs : s.size ≤ 1000000000) :
    Calls Tryz.prog 87 #[.agg #[.bool neg, .string s, .int .i64 e]] w fun en w' => en = .returned (.bool (decB neg (L s) e)) ∧ Below w.heap.size w w' := by
  have HV := Lib.hid (fun w => Valid1_any s w hs)
  have HZ := Lib.hid (fun w => Zeros1_any s w hs)
  have hb : ∀ x, Below w.heap.size w (w.alloc x) := fun x => (Below.refl _ _).alloc (Nat.le_refl _) _
  have HB := Lib.hid hb; clear hb
  obtain ⟨r, hr⟩ : ∃ r, r = decB neg (L s) e := ⟨_, rfl⟩
  rw [← hr]
  unfold decB at hr
  have hlen := L_len s
  by_cases h0 : L s = []
  · rw [if_pos h0] at hr
    have HR := Lib.hid hr
    have hq := isEh.2 h0
    clear hr h0 hlen HV HZ
    cases neg with
    | true =>
      go_enter Tryz.func87, Tryz.ntmps87
      go_wp2_with fail
      go_ret
      exact ⟨rb (by rw [HR.out]; rfl), HB.out _⟩
    | false =>
      go_enter Tryz.func87, Tryz.ntmps87
      go_wp2_with fail
      go_ret
      exact ⟨rb (by rw [HR.out, Bool.eq_iff_iff]; simp), HB.out _⟩
  rw [if_neg h0] at hr
  rw [hlen] at hr
  have hq : s.toList.isEmpty = false := by rw [Bool.eq_false_iff]; exact fun h => h0 (isEh.1 h)
  clear h0 hlen
  have HR := Lib.hid hr
  clear hr
  by_cases h1 : s.size ≤ 120
  case neg =>
    have HF : Hid (r = false) := by unfold Hid; rw [HR.out, decide_eq_false h1]; rfl
    have h1i : ¬ (s.size : Int) ≤ 120 := by omega
    clear HR HV HZ h1
    go_enter Tryz.func87, Tryz.ntmps87
    go_wp2_with fail
    go_ret
    exact ⟨rb HF.out.symm, HB.out _⟩
  have h1i : (s.size : Int) ≤ 120 := by omega
  have HR2 : Hid (r = (natB (L s) && (decide (tz (L s) = 0) && decide (-400 ≤ e ∧ e ≤ 400)))) := by unfold Hid; rw [HR.out, decide_eq_true h1, Bool.true_and]
  clear HR h1
  generalize natB (L s) = nb at *
  have hz1 := tz_le (L s)
  rw [L_len] at hz1
  generalize tz (L s) = z at *
  cases nb with
  | false =>
    go_enter Tryz.func87, Tryz.ntmps87
    go_wp2_with fail
    refine (HV.out _).mono ?_
    rintro en w' ⟨rfl, rfl⟩
    go_wp2_with fail
    go_ret
    exact ⟨rb HR2.out.symm, HB.out _⟩
  | true =>
    by_cases h2 : z = 0
    · subst h2
      have HF : Hid (r = decide (-400 ≤ e ∧ e ≤ 400)) := by unfold Hid; rw [HR2.out]; rfl
      clear HR2
      go_enter Tryz.func87, Tryz.ntmps87
      go_wp2_with fail
      refine (HV.out _).mono ?_
      rintro en w' ⟨rfl, rfl⟩
      go_wp2_with fail
      refine (HZ.out _).mono ?_
      rintro en w' ⟨rfl, rfl⟩
      go_wp2_with fail
      all_goals
        go_ret
        exact ⟨rb (by rw [HF.out, Bool.eq_iff_iff]; simp; omega), HB.out _⟩
    · have HF : Hid (r = false) := by unfold Hid; rw [HR2.out, decide_eq_false h2]; rfl
      have hq2 : ((z : Int) == 0) = false := by rw [beq_eq_false_iff_ne]; omega
      clear HR2 h2
      go_enter Tryz.func87, Tryz.ntmps87
      go_wp2_with fail
      refine (HV.out _).mono ?_
      rintro en w' ⟨rfl, rfl⟩
      go_wp2_with fail
      refine (HZ.out _).mono ?_
      rintro en w' ⟨rfl, rfl⟩
      go_wp2_with fail
      go_ret
      exact ⟨rb HF.out.symm, HB.out _⟩
theorem Valid5_any (k d n o : Int) (w : World) :
    Calls Tryz.prog 56 #[.agg #[.int .i64 k, .int .i64 d, .int .i64 n, .int .i64 o]] w fun en w' => en = .returned (.bool (timeB k d n o)) ∧ Below w.heap.size w w' := by
  have hb : ∀ x, Below w.heap.size w (w.alloc x) := fun x => (Below.refl _ _).alloc (Nat.le_refl _) _
  have HB := Lib.hid hb; clear hb
  obtain ⟨r, hr⟩ : ∃ r, r = timeB k d n o := ⟨_, rfl⟩
  rw [← hr]
  unfold timeB at hr
  have HR := Lib.hid hr
  clear hr
  by_cases hk : 1 ≤ k ∧ k ≤ 4 ∧ 0 ≤ d ∧ d ≤ 3652058 ∧ 0 ≤ n ∧ n ≤ 86399999999999 ∧ -1439 ≤ o ∧ o ≤ 1439
  case neg =>
    have HF : Hid (r = false) := by unfold Hid; rw [HR.out]; exact decide_eq_false (by omega)
    have HK := Lib.hid hk
    clear HR hk
    go_enter Tryz.func56, Tryz.ntmps56
    go_upto_region 1 with fail
    go_cut [40] (fun v wx => v = .bool true ∧ wx = w.alloc (.cells #[.int .i64 k, .int .i64 d, .int .i64 n, .int .i64 o] 25))
    case first =>
      go_wp2_with fail
      all_goals
        go_meet
        refine ⟨?_, rfl⟩
        have := HK.out
        first
          | rfl
          | (congr 1; simp; omega)
          | (exfalso; omega)
    case rest =>
    obtain ⟨rfl, rfl⟩ := hcut
    go_wp2_with fail
    go_ret
    exact ⟨rb HF.out.symm, HB.out _⟩
  obtain ⟨h1, h2, h3, h4, h5, h6, h7, h8⟩ := hk
  have HF : Hid (r = decide ((k = 1 ∨ k = 3 ∨ k = 4 ∨ d = 0) ∧ (k = 2 ∨ k = 3 ∨ k = 4 ∨ n = 0) ∧ (k = 4 ∨ o = 0))) := by
    unfold Hid
    rw [HR.out, decide_eq_decide]
    omega
  clear HR
  obtain ⟨b1, hb1⟩ : ∃ b, b = decide (k = 1 ∨ k = 3 ∨ k = 4) := ⟨_, rfl⟩
  obtain ⟨b2, hb2⟩ : ∃ b, b = decide (k = 2 ∨ k = 3 ∨ k = 4) := ⟨_, rfl⟩
  have HD : Hid (∀ w', Calls Tryz.prog 102 #[.int .i64 k] w' fun e w2 => e = .returned (.bool b1) ∧ w' = w2) := fun w' => by rw [hb1]; exact dated5_any k w'
  have HC : Hid (∀ w', Calls Tryz.prog 103 #[.int .i64 k] w' fun e w2 => e = .returned (.bool b2) ∧ w' = w2) := fun w' => by rw [hb2]; exact clocked5_any k w'
  have HX := Lib.hid hb1
  have HY := Lib.hid hb2
  clear hb1 hb2
  go_enter Tryz.func56, Tryz.ntmps56
  go_upto_region 1 with fail
  go_cut [40] (fun v wx => v = .bool false ∧ wx = w.alloc (.cells #[.int .i64 k, .int .i64 d, .int .i64 n, .int .i64 o] 25))
  case first =>
    go_wp2_with fail
    all_goals
      go_meet
      refine ⟨?_, rfl⟩
      first
        | rfl
        | (congr 1; simp; omega)
        | (exfalso; omega)
  case rest =>
  obtain ⟨rfl, rfl⟩ := hcut
  go_wp2_with fail
  refine (HD.out _).mono ?_
  rintro en w' ⟨rfl, rfl⟩
  cases b1 <;> cases b2
  all_goals
    go_wp2_with ((go_at_call 103; refine (HC.out _).mono ?_; rintro en w' ⟨rfl, rfl⟩))
    all_goals
      go_ret
      refine ⟨rb ?_, HB.out _⟩
      have hx := HX.out
      have hy := HY.out
      rw [HF.out, Bool.eq_iff_iff]
      simp at hx hy ⊢
      omega
theorem szE {s : ByteArray} : s.toList = [] ↔ s.size = 0 := by rw [toList_L, ← List.length_eq_zero_iff, L_len]
theorem own7_any (h : Hd) (b lv fv : Value) (nb nl nf cb cl cf : Nat) (ab al af : Option Addr) (w : World) (hb : nb = h.bytes.length) (e1 : b = .slice ab nb cb) (e2 : lv = .slice al nl cl) (e3 : fv = .slice af nf cf) :
    Calls Tryz.prog 86 #[aggV ⟨h, b, lv, fv⟩] w fun en w' => en = .returned (.bool (ownB h nl nf)) ∧ Below w.heap.size w w' := by
  have hbw : ∀ x, Below w.heap.size w (w.alloc x) := fun x => (Below.refl _ _).alloc (Nat.le_refl _) _
  have HB := Lib.hid hbw; clear hbw
  obtain ⟨r, hr⟩ : ∃ r, r = ownB h nl nf := ⟨_, rfl⟩
  rw [← hr]
  obtain ⟨a0, a1, a2, a3, a4, a5, a6, a7, a8, a9, a10⟩ := h
  unfold ownB at hr
  simp only at hr hb
  rw [← hb] at hr
  clear hb
  subst e1 e2 e3
  have HR := Lib.hid hr
  clear hr
  simp only [aggV]
  go_enter Tryz.func86, Tryz.ntmps86
  go_upto_region 2 with fail
  obtain ⟨q, hq⟩ : ∃ q : Bool, q = !decide (0 ≤ a0 ∧ a0 ≤ 7 ∧ (a0 = 1 ∨ a1 = false) ∧ (a0 = 2 ∨ (a2 = false ∧ a3.toList = [] ∧ a4 = 0)) ∧ (a0 = 3 ∨ (a5 = 0 ∧ a6 = 0 ∧ a7 = 0 ∧ a8 = 0))) := ⟨_, rfl⟩
  have HQ := Lib.hid hq
  clear hq
  go_cut [39] (fun v wx => v = .bool q ∧ wx = w.alloc (.cells #[.int .i64 a0, .bool a1, .bool a2, .string a3, .int .i64 a4, .int .i64 a5, .int .i64 a6, .int .i64 a7, .int .i64 a8, .string a9, .slice ab nb cb, .slice al nl cl, .slice af nf cf] 30))
  case first =>
    clear HR HB
    have HQ2 : Hid (True → q = !decide (0 ≤ a0 ∧ a0 ≤ 7 ∧ (a0 = 1 ∨ a1 = false) ∧ (a0 = 2 ∨ (a2 = false ∧ a3.toList = [] ∧ a4 = 0)) ∧ (a0 = 3 ∨ (a5 = 0 ∧ a6 = 0 ∧ a7 = 0 ∧ a8 = 0)))) := fun _ => HQ.out
    clear HQ
    cases a2
    all_goals go_wp2_with fail
    all_goals
      subst_vars
      go_meet
      refine ⟨congrArg Value.bool ?_, rfl⟩
      have hq := HQ2.out trivial
      clear HQ2
      rw [hq]
      clear hq
      first
        | (simp_all; done)
        | (simp_all; omega)
  case rest =>
  obtain ⟨rfl, rfl⟩ := hcut
  cases q with
  | true =>
    have HF : Hid (r = false) := by
      unfold Hid
      rw [HR.out]
      have hq := HQ.out
      rw [eq_comm, Bool.not_eq_true', decide_eq_false_iff_not] at hq
      refine decide_eq_false (fun h => hq ?_)
      obtain ⟨h1, h2, h3, h4, h5, _⟩ := h
      exact ⟨h1, h2, h3, h4.imp id (fun h => ⟨h.1, szE.2 h.2.1, h.2.2⟩), h5⟩
    clear HR HQ
    go_wp2_with fail
    go_ret
    exact ⟨rb HF.out.symm, HB.out _⟩
  | false =>
    have HF : Hid (r = decide ((a0 = 4 ∨ a9.toList = []) ∧ (a0 = 5 ∨ nb = 0) ∧ (a0 = 6 ∨ nl = 0) ∧ (a0 = 7 ∨ nf = 0))) := by
      unfold Hid
      have hq := HQ.out
      rw [eq_comm, Bool.not_eq_false', decide_eq_true_iff] at hq
      obtain ⟨h1, h2, h3, h4, h5⟩ := hq
      rw [HR.out, decide_eq_decide, szE]
      have h4' : a0 = 2 ∨ (a2 = false ∧ a3.size = 0 ∧ a4 = 0) := h4.imp id (fun h => ⟨h.1, szE.1 h.2.1, h.2.2⟩)
      exact ⟨fun h => h.2.2.2.2.2, fun h => ⟨h1, h2, h3, h4', h5, h⟩⟩
    clear HR HQ
    go_wp2_with fail
    all_goals
      go_ret
      refine ⟨rb ?_, HB.out _⟩
      rw [HF.out]
      clear HF
      rw [Bool.eq_iff_iff]
      first
        | (simp_all; done)
        | (simp_all; omega)
end Go.Proofs.YtlnpfpjncnkekaaGreatDoor
