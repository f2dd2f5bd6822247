/- datakitref21.Simple walked. Conditions: strings of at most 10^9 bytes. -/
import Derived.Test.YtgddhkanfcpipaaGreatDoorZk19
import Derived.Test.YtgddhkanfcpipaaGreatDoorZk7
namespace Go.Proofs.YtgddhkanfcpipaaGreatDoor
open Go.RowKit
set_option maxHeartbeats 4000000
set_option maxRecDepth 100000

def setS : List UInt8 := [32, 95, 45, 46, 47, 43, 36, 40, 41, 61]
theorem setS0 : ∀ n : Fin 256, decide (0 ≤ Lib.indexByte setS (UInt8.ofNat n.val)) = setS.contains (UInt8.ofNat n.val) := by decide +kernel
theorem setS_idx (b : UInt8) : decide (0 ≤ Lib.indexByte setS b) = setS.contains b := by
  have h := setS0 ⟨b.toNat, b.toNat_lt⟩
  simpa using h
/-- A byte of a simple string. -/
def okS (b : UInt8) : Bool := alpha b || dig b || decide (128 ≤ b.toNat) || setS.contains b
/-- A simple string. -/
def simpB (l : List UInt8) : Bool := decide (l ≠ []) && validL l && !(decide (l.head? = some 32)) && !(decide (l.getLast? = some 32)) && !dashB l && l.all okS
theorem okS_ways (b : UInt8) : (97 ≤ b.toNat ∧ b.toNat ≤ 122 ∧ okS b = true) ∨ (65 ≤ b.toNat ∧ b.toNat ≤ 90 ∧ okS b = true) ∨ (48 ≤ b.toNat ∧ b.toNat ≤ 57 ∧ okS b = true) ∨ (128 ≤ b.toNat ∧ okS b = true) ∨ (b.toNat < 48 ∧ okS b = setS.contains b) ∨ (58 ≤ b.toNat ∧ b.toNat ≤ 64 ∧ okS b = setS.contains b) ∨ (91 ≤ b.toNat ∧ b.toNat ≤ 96 ∧ okS b = setS.contains b) ∨ (123 ≤ b.toNat ∧ b.toNat < 128 ∧ okS b = setS.contains b) := by
  unfold okS alpha dig
  by_cases h1 : 97 ≤ b.toNat ∧ b.toNat ≤ 122
  · exact .inl ⟨h1.1, h1.2, by rw [decide_eq_true (.inl h1)]; rfl⟩
  by_cases h2 : 65 ≤ b.toNat ∧ b.toNat ≤ 90
  · exact .inr (.inl ⟨h2.1, h2.2, by rw [decide_eq_true (.inr h2)]; rfl⟩)
  rw [decide_eq_false (p := 97 ≤ b.toNat ∧ b.toNat ≤ 122 ∨ 65 ≤ b.toNat ∧ b.toNat ≤ 90) (fun h => h.elim h1 h2)]
  by_cases h3 : 48 ≤ b.toNat ∧ b.toNat ≤ 57
  · exact .inr (.inr (.inl ⟨h3.1, h3.2, by rw [decide_eq_true h3]; rfl⟩))
  rw [decide_eq_false h3]
  by_cases h4 : 128 ≤ b.toNat
  · exact .inr (.inr (.inr (.inl ⟨h4, by rw [decide_eq_true h4]; rfl⟩)))
  rw [decide_eq_false h4]
  refine .inr (.inr (.inr (.inr ?_)))
  by_cases h5 : b.toNat < 48
  · exact .inl ⟨h5, rfl⟩
  by_cases h6 : b.toNat ≤ 64
  · exact .inr (.inl ⟨by omega, h6, rfl⟩)
  by_cases h7 : b.toNat ≤ 96
  · exact .inr (.inr (.inl ⟨by omega, h7, rfl⟩))
  · exact .inr (.inr (.inr ⟨by omega, by omega, rfl⟩))
theorem IndexZ_any (b : UInt8) (w : World) : Calls Tryz.prog 93 #[.string ⟨#[32, 95, 45, 46, 47, 43, 36, 40, 41, 61]⟩, .int .u8 (b.toNat : Int)] w fun e w' => e = .returned (.int .i64 (Lib.indexByte setS b)) ∧ w = w' := by
  have h := Tryz.strings_IndexByte ⟨#[32, 95, 45, 46, 47, 43, 36, 40, 41, 61]⟩ (b.toNat : Int) w
  have hb : ((b.toNat : Int)).toNat.toUInt8 = b := by
    rw [Int.toNat_natCast]
    exact UInt8.ofNat_toNat
  rw [hb] at h
  exact h.mono fun _ _ h => ⟨h.1, h.2.symm⟩
theorem simpB_eq (s : ByteArray) (hp : 0 < s.size) (hq : s.size - 1 < s.size) : simpB (L s) =
    (validL (L s) && !(decide (s[0].toNat = 32)) && !(decide (s[s.size - 1].toNat = 32)) && !dashB (L s) && (L s).all okS) := by
  have hne : L s ≠ [] := by
    intro h
    have := congrArg List.length h
    rw [L_len, List.length_nil] at this
    omega
  have h0 : (L s).head? = some s[0] := by rw [List.head?_eq_getElem?, List.getElem?_eq_getElem (by rw [L_len]; exact hp)]; rfl
  have h2 : (L s).getLast? = some s[s.size - 1] := by
    rw [List.getLast?_eq_getElem?, List.getElem?_eq_getElem (by rw [L_len]; exact hq)]
    simp only [L_len]
    rfl
  have key : ∀ (b c : UInt8), decide (some b = some c) = decide (b.toNat = c.toNat) := by
    intro b c
    rw [decide_eq_decide, Option.some.injEq, UInt8.toNat_inj]
  unfold simpB
  rw [decide_eq_true hne, h0, h2, key, key, Bool.true_and]
  rfl
theorem simple_any (s : ByteArray) (w : World) (hs : s.size ≤ 1000000000) :
    Calls Tryz.prog 63 #[.string s] w fun e w' => e = .returned (.bool (simpB (L s))) ∧ w = w' := by
  have hm : s.size ≤ maxLen := by simp only [maxLen]; omega
  by_cases he : L s = []
  · have he1 : s.toList.isEmpty = true := by rw [empty_L]; simpa using he
    have HF : Hid (simpB (L s) = false) := by unfold Hid; rw [he]; rfl
    clear he
    go_enter Tryz.func63, Tryz.ntmps63
    go_wp2_with fail
    go_ret
    exact ⟨ret_b HF.out.symm, rfl⟩
  have he1 : s.toList.isEmpty = false := by rw [empty_L]; simpa using he
  have hp := size_pos he
  have hq : s.size - 1 < s.size := by omega
  have hkp : 1 ≤ (s.size : Int) := by omega
  have hkl : (s.size : Int) - 1 < (s.size : Int) := by omega
  have HF := Lib.hid (simpB_eq s hp hq)
  have HV := Lib.hid (fun w' => Valid_any s w' (by omega))
  have HD := Lib.hid (fun w' => dashed_any s w')
  generalize validL (L s) = v at *
  generalize dashB (L s) = d at *
  generalize simpB (L s) = sb at *
  obtain ⟨a, ha⟩ : ∃ a, a = (L s).all okS := ⟨_, rfl⟩
  rw [← ha] at HF
  have HA0 : Hid (a = ((L s).drop 0).all okS) := by unfold Hid; rw [List.drop_zero]; exact ha
  clear he ha
  obtain ⟨f, hf⟩ : ∃ f, f = decide (s[0].toNat = 32) := ⟨_, rfl⟩
  obtain ⟨l, hl⟩ : ∃ l, l = decide (s[s.size - 1].toNat = 32) := ⟨_, rfl⟩
  rw [← hf, ← hl] at HF
  have HFF := Lib.hid hf
  have HLL := Lib.hid hl
  clear hf hl
  cases v
  case false =>
    clear HFF HLL HA0
    go_enter Tryz.func63, Tryz.ntmps63
    go_wp2_with (first
        | (go_at_call 36; refine (HV.out _).mono ?_; rintro e w' ⟨rfl, rfl⟩)
        | (go_at_call 94; refine (HD.out _).mono ?_; rintro e w' ⟨rfl, rfl⟩))
    go_ret
    exact ⟨ret_b (by rw [HF.out]; try rfl), rfl⟩
  cases f
  case true =>
    have gf := beqB s[0] 32 (by have := of_decide_eq_true HFF.out.symm; omega)
    clear HFF HLL HA0
    go_enter Tryz.func63, Tryz.ntmps63
    go_wp2_with (first
        | (go_at_call 36; refine (HV.out _).mono ?_; rintro e w' ⟨rfl, rfl⟩)
        | (go_at_call 94; refine (HD.out _).mono ?_; rintro e w' ⟨rfl, rfl⟩))
    go_ret
    exact ⟨ret_b (by rw [HF.out]; try rfl), rfl⟩
  have gf := beqNB s[0] 32 (by have := of_decide_eq_false HFF.out.symm; omega)
  cases l
  case true =>
    have gl := beqB s[s.size - 1] 32 (by have := of_decide_eq_true HLL.out.symm; omega)
    clear HFF HLL HA0
    go_enter Tryz.func63, Tryz.ntmps63
    go_wp2_with (first
        | (go_at_call 36; refine (HV.out _).mono ?_; rintro e w' ⟨rfl, rfl⟩)
        | (go_at_call 94; refine (HD.out _).mono ?_; rintro e w' ⟨rfl, rfl⟩))
    go_ret
    exact ⟨ret_b (by rw [HF.out]; try rfl), rfl⟩
  have gl := beqNB s[s.size - 1] 32 (by have := of_decide_eq_false HLL.out.symm; omega)
  cases d
  case true =>
    clear HFF HLL HA0
    go_enter Tryz.func63, Tryz.ntmps63
    go_wp2_with (first
        | (go_at_call 36; refine (HV.out _).mono ?_; rintro e w' ⟨rfl, rfl⟩)
        | (go_at_call 94; refine (HD.out _).mono ?_; rintro e w' ⟨rfl, rfl⟩))
    go_ret
    exact ⟨ret_b (by rw [HF.out]; try rfl), rfl⟩
  have HG : Hid (sb = a) := by unfold Hid; rw [HF.out]; rfl
  clear HF HFF HLL
  go_enter Tryz.func63, Tryz.ntmps63
  go_wp2_with (first
      | (go_at_call 36; refine (HV.out _).mono ?_; rintro e w' ⟨rfl, rfl⟩)
      | (go_at_call 94; refine (HD.out _).mono ?_; rintro e w' ⟨rfl, rfl⟩))
  go_loopw [3, 4, 31] (fun _ _ iv wr => ∃ k : Nat, iv = .int .i64 (k : Int) ∧ k ≤ s.size ∧ Hid (a = ((L s).drop k).all okS) ∧ w = wr) (fun _ _ iv _ => s.size - (intOf iv).toNat)
  case atStart => exact ⟨0, rfl, Nat.zero_le _, HA0.out, rfl⟩
  case round =>
    clear HA0
    obtain ⟨k, rfl, hks, HA, rfl⟩ := hrel
    have hk0 : (0 : Int) ≤ (k : Int) := by omega
    by_cases hlt : k < s.size
    case neg =>
      have hc : a = true := by rw [HA.out, L_drop_nil s k (by omega)]; rfl
      subst hc
      clear HA
      go_wp2_with fail
      go_ret
      exact ⟨ret_b HG.out.symm, rfl⟩
    have hst := HA.out
    rw [L_drop s k hlt, List.all_cons] at hst
    have HS := Lib.hid hst
    clear HA hst
    have HX := Lib.hid (fun w' => IndexZ_any s[k] w')
    have HXS := setS_idx s[k]
    rcases okS_ways s[k] with ⟨b1, b2, b3⟩ | ⟨b1, b2, b3⟩ | ⟨b1, b2, b3⟩ | ⟨b1, b3⟩ | ⟨b2, b3⟩ | ⟨b1, b2, b3⟩ | ⟨b1, b2, b3⟩ | ⟨b1, b2, b3⟩
    all_goals
      rw [b3] at HS
      first | have f1 : (97 : Int) ≤ (s[k].toNat : Int) := by omega
            | have f1 : ((97 : Int) ≤ (s[k].toNat : Int)) = False := eq_false (by omega)
      first | have f2 : (s[k].toNat : Int) ≤ 122 := by omega
            | have f2 : ((s[k].toNat : Int) ≤ 122) = False := eq_false (by omega)
      first | have f3 : (65 : Int) ≤ (s[k].toNat : Int) := by omega
            | have f3 : ((65 : Int) ≤ (s[k].toNat : Int)) = False := eq_false (by omega)
      first | have f4 : (s[k].toNat : Int) ≤ 90 := by omega
            | have f4 : ((s[k].toNat : Int) ≤ 90) = False := eq_false (by omega)
      first | have f5 : (48 : Int) ≤ (s[k].toNat : Int) := by omega
            | have f5 : ((48 : Int) ≤ (s[k].toNat : Int)) = False := eq_false (by omega)
      first | have f6 : (s[k].toNat : Int) ≤ 57 := by omega
            | have f6 : ((s[k].toNat : Int) ≤ 57) = False := eq_false (by omega)
      first | have f7 : (128 : Int) ≤ (s[k].toNat : Int) := by omega
            | have f7 : ((128 : Int) ≤ (s[k].toNat : Int)) = False := eq_false (by omega)
    iterate 4
      · have HN : Hid (a = ((L s).drop (k + 1)).all okS) := by unfold Hid; rw [HS.out, Bool.true_and]
        clear HS HX HXS b3
        try clear b1
        try clear b2
        go_wp2_with fail
        exact ⟨⟨k + 1, by go_num, by omega, HN.out, trivial⟩, by simp [intOf]; omega⟩
    all_goals
      generalize Lib.indexByte setS s[k] = ix at *
      generalize setS.contains s[k] = cs at *
      try clear b1
      try clear b2
      cases cs
      · have gx : ((0 : Int) ≤ ix) = False := eq_false (of_decide_eq_false HXS)
        have hc : a = false := by rw [HS.out]; rfl
        subst hc
        clear HS HXS b3
        go_wp2_with (go_at_call 93; refine (HX.out _).mono ?_; rintro e w' ⟨rfl, rfl⟩)
        go_ret
        exact ⟨ret_b HG.out.symm, rfl⟩
      · have gx : ((0 : Int) ≤ ix) = True := eq_true (of_decide_eq_true HXS)
        have HN : Hid (a = ((L s).drop (k + 1)).all okS) := by unfold Hid; rw [HS.out, Bool.true_and]
        clear HS HXS b3
        go_wp2_with (go_at_call 93; refine (HX.out _).mono ?_; rintro e w' ⟨rfl, rfl⟩)
        exact ⟨⟨k + 1, by go_num, by omega, HN.out, trivial⟩, by simp [intOf]; omega⟩
end Go.Proofs.YtgddhkanfcpipaaGreatDoor

namespace Go.Proofs.YtgddhkanfcpipaaGreatDoor
open Go.RowKit
set_option maxHeartbeats 4000000
set_option maxRecDepth 100000

theorem Simple3_any (s : ByteArray) (w : World) (hs : s.size ≤ 1000000000) :
    Calls Tryz.prog 65 #[.string s] w fun e w' => e = .returned (.bool (simpB (L s))) ∧ Below w.heap.size w w' := by
  have hm : s.size ≤ maxLen := by simp only [maxLen]; omega
  obtain ⟨sb, hsb⟩ : ∃ sb, sb = simpB (L s) := ⟨_, rfl⟩
  rw [← hsb]
  have HSB := Lib.hid hsb
  have HSE : Hid (sb = (decide (L s ≠ []) && validL (L s) && !(decide ((L s).head? = some 32)) && !(decide ((L s).getLast? = some 32)) && !dashB (L s) && (L s).all okS)) := hsb
  clear hsb
  obtain ⟨a, ha⟩ : ∃ a, a = (L s).all okS := ⟨_, rfl⟩
  rw [← ha] at HSE
  have HA0 : Hid (a = ((L s).drop 0).all okS) := by unfold Hid; rw [List.drop_zero]; exact ha
  have HAE := Lib.hid ha
  clear ha
  go_enter Tryz.func65, Tryz.ntmps65
  go_wp2_with fail
  go_loopw [3] (fun iv wr => ∃ k : Nat, iv = .int .i64 (k : Int) ∧ k ≤ s.size ∧ Hid (a = ((L s).drop k).all okS) ∧ w = wr) (fun iv _ => s.size - (intOf iv).toNat)
  case atStart => exact ⟨0, rfl, Nat.zero_le _, HA0.out, rfl⟩
  case round =>
    clear HA0
    obtain ⟨k, rfl, hks, HA, rfl⟩ := hrel
    have hk0 : (0 : Int) ≤ (k : Int) := by omega
    by_cases hlt : k < s.size
    case pos =>
      have hst := HA.out
      rw [L_drop s k hlt, List.all_cons] at hst
      have HO : Hid (okS s[k] = (alpha s[k] || dig s[k] || decide (128 ≤ s[k].toNat) || setS.contains s[k])) := rfl
      generalize okS s[k] = o at *
      have HS := Lib.hid hst
      clear HA hst
      have HX := Lib.hid (fun w' => in_any ⟨#[32, 95, 45, 46, 47, 43, 36, 40, 41, 61]⟩ s[k] w' (by decide))
      have ex : (L ⟨#[32, 95, 45, 46, 47, 43, 36, 40, 41, 61]⟩).contains s[k] = setS.contains s[k] := rfl
      rw [ex] at HX
      have HL := Lib.hid (fun w' => Letter3_any s[k] w')
      have HD := Lib.hid (fun w' => Digit3_any s[k] w')
      clear ex
      generalize setS.contains s[k] = cs at *
      generalize alpha s[k] = al at *
      generalize dig s[k] = di at *
      by_cases h128 : 128 ≤ s[k].toNat
      all_goals
        first
          | have f1 : ((s[k].toNat : Int) < 128) = True := eq_true (by omega)
          | have f1 : ((s[k].toNat : Int) < 128) = False := eq_false (by omega)
        first
          | rw [decide_eq_true h128] at HO
          | rw [decide_eq_false h128] at HO
        clear h128
        cases al <;> cases di <;> cases cs
      all_goals
        first
          | (have HF : Hid (a = false) := by unfold Hid; rw [HS.out, HO.out]; rfl
             have HG : Hid (sb = false) := by unfold Hid; rw [HSE.out, HF.out, Bool.and_false]
             clear HS HO HF HSE
             go_wp2_with (first
               | (go_at_call 116; refine (HL.out _).mono ?_; rintro e w' ⟨rfl, rfl⟩)
               | (go_at_call 117; refine (HD.out _).mono ?_; rintro e w' ⟨rfl, rfl⟩)
               | (go_at_call 107; refine (HX.out _).mono ?_; rintro e w' ⟨rfl, rfl⟩))
             go_ret
             exact ⟨ret_b HG.out.symm, Below.refl _ _⟩)
          | (have HN : Hid (a = ((L s).drop (k + 1)).all okS) := by unfold Hid; rw [HS.out, HO.out]; rfl
             clear HS HO
             go_wp2_with (first
               | (go_at_call 116; refine (HL.out _).mono ?_; rintro e w' ⟨rfl, rfl⟩)
               | (go_at_call 117; refine (HD.out _).mono ?_; rintro e w' ⟨rfl, rfl⟩)
               | (go_at_call 107; refine (HX.out _).mono ?_; rintro e w' ⟨rfl, rfl⟩))
             exact ⟨⟨k + 1, by go_num, by omega, HN.out, trivial⟩, by simp [intOf]; omega⟩)
    case neg =>
      have hc : a = true := by rw [HA.out, L_drop_nil s k (by omega)]; rfl
      subst hc
      clear HA
      by_cases he : L s = []
      · have he1 : s.toList.isEmpty = true := by rw [empty_L]; simpa using he
        have HG : Hid (sb = false) := by unfold Hid; rw [HSB.out, he]; rfl
        clear he HSE
        go_wp2_with fail
        go_ret
        exact ⟨ret_b HG.out.symm, Below.refl _ _⟩
      have he1 : s.toList.isEmpty = false := by rw [empty_L]; simpa using he
      have hp := size_pos he
      have hq : s.size - 1 < s.size := by omega
      have hkp : 1 ≤ (s.size : Int) := by omega
      have hkl : (s.size : Int) - 1 < (s.size : Int) := by omega
      have hE := simpB_eq s hp hq
      rw [← HSB.out] at hE
      have hall : (L s).all okS = true := HAE.out.symm
      rw [hall, Bool.and_true] at hE
      have HF := Lib.hid hE
      clear hE hall HSE he
      have HV := Lib.hid (fun w' => Valid3_any s w' hs)
      have HD := Lib.hid (fun w' => dash_any s w' hs)
      generalize validL (L s) = v at *
      generalize dashB (L s) = d at *
      obtain ⟨f, hf⟩ : ∃ f, f = decide (s[0].toNat = 32) := ⟨_, rfl⟩
      obtain ⟨l, hl⟩ : ∃ l, l = decide (s[s.size - 1].toNat = 32) := ⟨_, rfl⟩
      rw [← hf, ← hl] at HF
      have HFF := Lib.hid hf
      have HLL := Lib.hid hl
      clear hf hl
      cases v
      case false =>
        clear HFF HLL
        go_wp2_with (first
        | (go_at_call 96; refine (HV.out _).mono ?_; rintro e w1 ⟨rfl, hb1⟩; have HB := Lib.hid hb1; clear hb1)
        | (go_at_call 108; refine (HD.out _).mono ?_; rintro e w' ⟨rfl, rfl⟩))
        go_ret
        exact ⟨ret_b (by rw [HF.out]; try rfl), HB.out⟩
      cases f
      case true =>
        have gf := bneB s[0] 32 (by have := of_decide_eq_true HFF.out.symm; omega)
        clear HFF HLL
        go_wp2_with (first
        | (go_at_call 96; refine (HV.out _).mono ?_; rintro e w1 ⟨rfl, hb1⟩; have HB := Lib.hid hb1; clear hb1)
        | (go_at_call 108; refine (HD.out _).mono ?_; rintro e w' ⟨rfl, rfl⟩))
        go_ret
        exact ⟨ret_b (by rw [HF.out]; try rfl), HB.out⟩
      have gf := bneNB s[0] 32 (by have := of_decide_eq_false HFF.out.symm; omega)
      cases l
      case true =>
        have gl := bneB s[s.size - 1] 32 (by have := of_decide_eq_true HLL.out.symm; omega)
        clear HFF HLL
        go_wp2_with (first
        | (go_at_call 96; refine (HV.out _).mono ?_; rintro e w1 ⟨rfl, hb1⟩; have HB := Lib.hid hb1; clear hb1)
        | (go_at_call 108; refine (HD.out _).mono ?_; rintro e w' ⟨rfl, rfl⟩))
        go_ret
        exact ⟨ret_b (by rw [HF.out]; try rfl), HB.out⟩
      have gl := bneNB s[s.size - 1] 32 (by have := of_decide_eq_false HLL.out.symm; omega)
      cases d
      all_goals
        clear HFF HLL
        go_wp2_with (first
        | (go_at_call 96; refine (HV.out _).mono ?_; rintro e w1 ⟨rfl, hb1⟩; have HB := Lib.hid hb1; clear hb1)
        | (go_at_call 108; refine (HD.out _).mono ?_; rintro e w' ⟨rfl, rfl⟩))
        go_ret
        exact ⟨ret_b (by rw [HF.out]; try rfl), HB.out⟩
end Go.Proofs.YtgddhkanfcpipaaGreatDoor
