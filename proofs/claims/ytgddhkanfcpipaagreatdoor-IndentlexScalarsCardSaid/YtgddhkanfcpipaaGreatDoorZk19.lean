/- datakitref21.Key walked. Conditions: strings of at most 10^9 bytes. -/
import Derived.Test.YtgddhkanfcpipaaGreatDoorZk18
import Derived.Test.YtgddhkanfcpipaaGreatDoorZk3
import Derived.Test.YtgddhkanfcpipaaGreatDoorZk13
import Derived.Test.YtgddhkanfcpipaaGreatDoorZk6
import Derived.Test.YtgddhkanfcpipaaGreatDoorZk8
namespace Go.Proofs.YtgddhkanfcpipaaGreatDoor
open Go.RowKit
set_option maxHeartbeats 4000000
set_option maxRecDepth 100000

/-- What the library reads: its tables, and a number. -/
structure EnvI (w : World) : Prop where
  tab : TabU w
  ml : ∃ m, w.cell? ⟨2, 0, none⟩ = some (.int .i64 m)
theorem EnvI.below {w w' : World} (h : EnvI w) (hb : Below w.heap.size w w') : EnvI w' := by
  refine ⟨h.tab.below hb, ?_⟩
  obtain ⟨m, hm⟩ := h.ml
  refine ⟨m, ?_⟩
  rw [hb.cell (p := ⟨2, 0, none⟩)]
  · exact hm
  · rcases Nat.lt_or_ge 2 w.heap.size with h1 | h1
    · exact h1
    · simp [World.cell?, Array.getElem?_eq_none h1] at hm
theorem ret_b {a b : Bool} (h : a = b) : Ending.returned (.bool a) = Ending.returned (.bool b) := by rw [h]
theorem endH_at (s : ByteArray) (i : Nat) (h : i < s.size) : endH ((L s).drop i) = decide (s[i].toNat = 58 ∧ (i + 1 = s.size ∨ ∃ h1 : i + 1 < s.size, s[i + 1].toNat = 32)) := by
  rw [L_drop s i h, endH]
  by_cases h1 : i + 1 < s.size
  · rw [L_drop s (i + 1) h1, List.head?_cons]
    rw [decide_eq_decide]
    refine and_congr Iff.rfl ⟨?_, ?_⟩
    · rintro (h2 | h2)
      · cases h2
      · exact .inr ⟨h1, by rw [Option.some.inj h2]; rfl⟩
    · rintro (h2 | ⟨_, h2⟩)
      · omega
      · exact .inr (by rw [UInt8.toNat_inj.1 (show s[i + 1].toNat = (32 : UInt8).toNat from h2)])
  · rw [L_drop_nil s (i + 1) (by omega)]
    rw [decide_eq_decide]
    refine and_congr Iff.rfl ⟨fun _ => .inl (by omega), fun _ => .inl rfl⟩
theorem ends_any (s : ByteArray) (i : Nat) (w : World) (hs : s.size ≤ 1000000000) (hi : i ≤ s.size) :
    Calls Tryz.prog 55 #[.string s, .int .i64 i] w fun e w' => e = .returned (.bool (endH ((L s).drop i))) ∧ w = w' := by
  have hm : s.size ≤ maxLen := by simp only [maxLen]; omega
  by_cases hlt : i < s.size
  case neg =>
    have HF : Hid (endH ((L s).drop i) = false) := by unfold Hid; rw [L_drop_nil s i (by omega)]; rfl
    go_enter Tryz.func55, Tryz.ntmps55
    go_wp2_with fail
    go_ret
    exact ⟨ret_b HF.out.symm, rfl⟩
  have hE := endH_at s i hlt
  by_cases h58 : s[i].toNat = 58
  case neg =>
    have g := beqNB s[i] 58 (by omega)
    have HF : Hid (endH ((L s).drop i) = false) := by unfold Hid; rw [hE]; exact decide_eq_false (fun h => h58 h.1)
    clear hE h58
    go_enter Tryz.func55, Tryz.ntmps55
    go_wp2_with fail
    go_ret
    exact ⟨ret_b HF.out.symm, rfl⟩
  have g := beqB s[i] 58 (by omega)
  by_cases h1 : i + 1 < s.size
  case neg =>
    have g1 : ((i : Int) + 1 == (s.size : Int)) = true := by rw [beq_iff_eq]; omega
    have HF : Hid (endH ((L s).drop i) = true) := by unfold Hid; rw [hE]; exact decide_eq_true ⟨h58, .inl (by omega)⟩
    clear hE h58 h1
    go_enter Tryz.func55, Tryz.ntmps55
    go_wp2_with fail
    go_ret
    exact ⟨ret_b HF.out.symm, rfl⟩
  have g1 : ((i : Int) + 1 == (s.size : Int)) = false := by rw [beq_eq_false_iff_ne]; omega
  by_cases h32 : s[i + 1].toNat = 32
  · have g2 := beqB s[i + 1] 32 (by omega)
    have HF : Hid (endH ((L s).drop i) = true) := by unfold Hid; rw [hE]; exact decide_eq_true ⟨h58, .inr ⟨h1, h32⟩⟩
    clear hE h58 h32
    go_enter Tryz.func55, Tryz.ntmps55
    go_wp2_with fail
    go_ret
    exact ⟨ret_b HF.out.symm, rfl⟩
  · have g2 := beqNB s[i + 1] 32 (by omega)
    have HF : Hid (endH ((L s).drop i) = false) := by unfold Hid; rw [hE]; exact decide_eq_false (by rintro ⟨-, h | ⟨_, h⟩⟩ <;> omega)
    clear hE h58 h32
    go_enter Tryz.func55, Tryz.ntmps55
    go_wp2_with fail
    go_ret
    exact ⟨ret_b HF.out.symm, rfl⟩
theorem below32_any (r : Nat) (w : World) : Calls Tryz.prog 85 #[.int .i32 (r : Int)] w fun e w' => e = .returned (.bool (decide (r < 32))) ∧ Below w.heap.size w w' := by
  by_cases h : r < 32
  · have h1 : (r : Int) < 32 := by omega
    have HF : Hid (decide (r < 32) = true) := decide_eq_true h
    clear h
    go_enter Tryz.func85, Tryz.ntmps85
    go_wp2_with fail
    go_ret
    exact ⟨ret_b HF.out.symm, Below.refl _ _⟩
  · have h1 : ¬ (r : Int) < 32 := by omega
    have HF : Hid (decide (r < 32) = false) := decide_eq_false h
    clear h
    go_enter Tryz.func85, Tryz.ntmps85
    go_wp2_with fail
    go_ret
    exact ⟨ret_b HF.out.symm, Below.refl _ _⟩
theorem control_any (s : ByteArray) (w : World) :
    Calls Tryz.prog 37 #[.string s] w fun e w' => e = .returned (.bool (ctlB (L s))) ∧ Below w.heap.size w w' := by
  have HI := Lib.hid (Tryz.strings_IndexFunc_grows 85 #[] (fun _ _ => rfl) (fun r => decide (r < 32)) s w (fun W x _ _ => below32_any x W))
  have hc := ctl_idx s
  generalize Lib.idxFunc (fun r => decide (r < 32)) true s = ix at *
  cases hct : ctlB (L s)
  · rw [hct] at hc
    have h : ¬ (0 : Int) ≤ ix := of_decide_eq_false hc
    clear hct hc
    go_enter Tryz.func37, Tryz.ntmps37
    go_wp2_with (go_at_call 84; refine HI.out.mono ?_; rintro e w' ⟨rfl, hb⟩)
    go_ret
    exact ⟨ret_b (decide_eq_false (by omega)), hb⟩
  · rw [hct] at hc
    have h : (0 : Int) ≤ ix := of_decide_eq_true hc
    clear hct hc
    go_enter Tryz.func37, Tryz.ntmps37
    go_wp2_with (go_at_call 84; refine HI.out.mono ?_; rintro e w' ⟨rfl, hb⟩)
    go_ret
    exact ⟨rfl, hb⟩
end Go.Proofs.YtgddhkanfcpipaaGreatDoor

namespace Go.Proofs.YtgddhkanfcpipaaGreatDoor
open Go.RowKit
set_option maxHeartbeats 4000000
set_option maxRecDepth 100000

theorem hasP_pre (l p : List UInt8) : Lib.hasPrefix l p = pre l p := by
  unfold Lib.hasPrefix pre
  rw [Bool.eq_iff_iff, beq_iff_eq, List.isPrefixOf_iff_prefix, List.prefix_iff_eq_take]
  exact eq_comm
theorem dashed_any (s : ByteArray) (w : World) :
    Calls Tryz.prog 94 #[.string s] w fun e w' => e = .returned (.bool (dashB (L s))) ∧ w = w' := by
  have HP := Lib.hid (fun w' => (Tryz.strings_HasPrefix s ⟨#[45, 32]⟩ w').mono fun e w2 h => (⟨h.1, h.2.symm⟩ : _ ∧ w' = w2))
  have e1 : Lib.hasPrefix s.data.toList (⟨#[45, 32]⟩ : ByteArray).data.toList = pre (L s) [45, 32] := hasP_pre _ _
  rw [e1] at HP
  have HD : Hid (dashB (L s) = (decide (L s = [45]) || pre (L s) [45, 32])) := rfl
  generalize pre (L s) [45, 32] = p at *
  clear e1
  by_cases h : L s = [45]
  · have h1 : s = ⟨#[45]⟩ := L_inj h
    have HF : Hid (dashB (L s) = true) := by unfold Hid; rw [HD.out, decide_eq_true h]; rfl
    subst h1
    clear HD h
    go_enter Tryz.func94, Tryz.ntmps94
    go_wp2_with fail
    go_ret
    exact ⟨ret_b HF.out.symm, rfl⟩
  · have h1 : (s.toList == [45]) = false := by rw [toList_L]; exact beq_false h
    have HF : Hid (dashB (L s) = p) := by unfold Hid; rw [HD.out, decide_eq_false h]; rfl
    clear HD h
    cases p
    all_goals
      go_enter Tryz.func94, Tryz.ntmps94
      go_wp2_with (go_at_call 41; refine (HP.out _).mono ?_; rintro e w' ⟨rfl, rfl⟩)
      go_ret
      exact ⟨ret_b HF.out.symm, rfl⟩
theorem plainB_eq (s : ByteArray) (hp : 0 < s.size) (hq : s.size - 1 < s.size) : plainB (L s) =
    (validL (L s) && !ctlB (L s) && !(firstX.contains s[0]) && !dashB (L s) && !(decide (s[0].toNat = 32)) && !(decide (s[s.size - 1].toNat = 32)) && !two 58 32 (L s) && !two 32 35 (L s) && !(decide (s[s.size - 1].toNat = 58))) := by
  have hne : L s ≠ [] := by
    intro h
    have := congrArg List.length h
    rw [L_len, List.length_nil] at this
    omega
  have h0 : (L s).head? = some s[0] := by rw [List.head?_eq_getElem?, List.getElem?_eq_getElem (by rw [L_len]; exact hp)]; rfl
  have h1 : (L s).headD 0 = s[0] := by rw [List.headD_eq_head?_getD, h0]; rfl
  have h2 : (L s).getLast? = some s[s.size - 1] := by
    rw [List.getLast?_eq_getElem?, List.getElem?_eq_getElem (by rw [L_len]; exact hq)]
    simp only [L_len]
    rfl
  have key : ∀ (b c : UInt8), decide (some b = some c) = decide (b.toNat = c.toNat) := by
    intro b c
    rw [decide_eq_decide, Option.some.injEq, UInt8.toNat_inj]
  unfold plainB
  rw [decide_eq_true hne, h0, h1, h2, key, key, key, Bool.true_and]
  rfl
theorem IndexF_any (b : UInt8) (w : World) : Calls Tryz.prog 93 #[.string ⟨#[91, 93, 123, 125, 44, 35, 38, 42, 33, 124, 62, 39, 34, 37, 64, 96]⟩, .int .u8 (b.toNat : Int)] w fun e w' => e = .returned (.int .i64 (Lib.indexByte firstX b)) ∧ w = w' := by
  have h := Tryz.strings_IndexByte ⟨#[91, 93, 123, 125, 44, 35, 38, 42, 33, 124, 62, 39, 34, 37, 64, 96]⟩ (b.toNat : Int) w
  have hb : ((b.toNat : Int)).toNat.toUInt8 = b := by
    rw [Int.toNat_natCast]
    exact UInt8.ofNat_toNat
  rw [hb] at h
  exact h.mono fun _ _ h => ⟨h.1, h.2.symm⟩
theorem Contains2_any (s : ByteArray) (a b : UInt8) (w : World) (hs : s.size ≤ 1000000000) (hE : EnvI w) :
    Calls Tryz.prog 95 #[.string s, .string ⟨#[a, b]⟩] w fun e w' => e = .returned (.bool (two a b (L s))) ∧ w = w' := by
  obtain ⟨m, hm⟩ := hE.ml
  have h := Tryz.strings_Contains s ⟨#[a, b]⟩ m w (by omega) hm
  refine h.mono fun _ _ h => ⟨?_, h.2.symm⟩
  rw [h.1]
  exact ret_b (two_has a b (L s))
theorem loose_any (s : ByteArray) (w : World) (hs : s.size ≤ 1000000000) (hE : EnvI w) :
    Calls Tryz.prog 43 #[.string s] w fun e w' => e = .returned (.bool (plainB (L s))) ∧ Below w.heap.size w w' := by
  have HE := Lib.hid hE
  clear hE
  by_cases he : L s = []
  · have he1 : s.toList.isEmpty = true := by rw [empty_L]; simpa using he
    have HF : Hid (plainB (L s) = false) := by unfold Hid; rw [he]; rfl
    clear he
    go_enter Tryz.func43, Tryz.ntmps43
    go_wp2_with fail
    go_ret
    exact ⟨ret_b HF.out.symm, Below.refl _ _⟩
  have he1 : s.toList.isEmpty = false := by rw [empty_L]; simpa using he
  have hp := size_pos he
  have hq : s.size - 1 < s.size := by omega
  have hkp : 1 ≤ (s.size : Int) := by omega
  have hkl : (s.size : Int) - 1 < (s.size : Int) := by omega
  have HF := Lib.hid (plainB_eq s hp hq)
  have HV := Lib.hid (fun w' => Valid_any s w' (by omega))
  have HC := Lib.hid (fun w' => control_any s w')
  have HX := Lib.hid (fun w' => IndexF_any s[0] w')
  have HXF := Lib.hid (firstX_idx s[0])
  have HD := Lib.hid (fun w' => dashed_any s w')
  have HT1 := Lib.hid (fun w' hE => Contains2_any s 58 32 w' hs hE)
  have HT2 := Lib.hid (fun w' hE => Contains2_any s 32 35 w' hs hE)
  generalize validL (L s) = v at *
  generalize ctlB (L s) = c at *
  generalize dashB (L s) = d at *
  generalize two 58 32 (L s) = t1 at *
  generalize two 32 35 (L s) = t2 at *
  generalize Lib.indexByte firstX s[0] = ix at *
  generalize hx : firstX.contains s[0] = x at *
  clear he hx
  obtain ⟨f, hf⟩ : ∃ f, f = decide (s[0].toNat = 32) := ⟨_, rfl⟩
  obtain ⟨l, hl⟩ : ∃ l, l = decide (s[s.size - 1].toNat = 32) := ⟨_, rfl⟩
  obtain ⟨z, hz⟩ : ∃ z, z = decide (s[s.size - 1].toNat = 58) := ⟨_, rfl⟩
  rw [← hf, ← hl, ← hz] at HF
  have HFF := Lib.hid hf
  have HLL := Lib.hid hl
  have HZZ := Lib.hid hz
  clear hf hl hz
  cases v
  case false =>
    clear HFF HLL HZZ HXF
    go_enter Tryz.func43, Tryz.ntmps43
    go_wp2_with (first
        | (go_at_call 36; refine (HV.out _).mono ?_; rintro e w' ⟨rfl, rfl⟩)
        | (go_at_call 37; refine (HC.out _).mono ?_; rintro e w1 ⟨rfl, hb1⟩; have HB1 := Lib.hid hb1; have HE1 := Lib.hid (HE.out.below hb1); clear hb1)
        | (go_at_call 93; refine (HX.out _).mono ?_; rintro e w' ⟨rfl, rfl⟩)
        | (go_at_call 94; refine (HD.out _).mono ?_; rintro e w' ⟨rfl, rfl⟩)
        | (go_at_call 95; refine (HT1.out _ HE1.out).mono ?_; rintro e w' ⟨rfl, rfl⟩)
        | (go_at_call 95; refine (HT2.out _ HE1.out).mono ?_; rintro e w' ⟨rfl, rfl⟩))
    go_ret
    exact ⟨ret_b (by rw [HF.out]; try rfl), by first | exact HB1.out | exact Below.refl _ _⟩
  cases c
  case true =>
    clear HFF HLL HZZ HXF
    go_enter Tryz.func43, Tryz.ntmps43
    go_wp2_with (first
        | (go_at_call 36; refine (HV.out _).mono ?_; rintro e w' ⟨rfl, rfl⟩)
        | (go_at_call 37; refine (HC.out _).mono ?_; rintro e w1 ⟨rfl, hb1⟩; have HB1 := Lib.hid hb1; have HE1 := Lib.hid (HE.out.below hb1); clear hb1)
        | (go_at_call 93; refine (HX.out _).mono ?_; rintro e w' ⟨rfl, rfl⟩)
        | (go_at_call 94; refine (HD.out _).mono ?_; rintro e w' ⟨rfl, rfl⟩)
        | (go_at_call 95; refine (HT1.out _ HE1.out).mono ?_; rintro e w' ⟨rfl, rfl⟩)
        | (go_at_call 95; refine (HT2.out _ HE1.out).mono ?_; rintro e w' ⟨rfl, rfl⟩))
    go_ret
    exact ⟨ret_b (by rw [HF.out]; try rfl), by first | exact HB1.out | exact Below.refl _ _⟩
  cases x
  case true =>
    have gx : ¬ ix < 0 := by have := of_decide_eq_true HXF.out; omega
    clear HFF HLL HZZ HXF
    go_enter Tryz.func43, Tryz.ntmps43
    go_wp2_with (first
        | (go_at_call 36; refine (HV.out _).mono ?_; rintro e w' ⟨rfl, rfl⟩)
        | (go_at_call 37; refine (HC.out _).mono ?_; rintro e w1 ⟨rfl, hb1⟩; have HB1 := Lib.hid hb1; have HE1 := Lib.hid (HE.out.below hb1); clear hb1)
        | (go_at_call 93; refine (HX.out _).mono ?_; rintro e w' ⟨rfl, rfl⟩)
        | (go_at_call 94; refine (HD.out _).mono ?_; rintro e w' ⟨rfl, rfl⟩)
        | (go_at_call 95; refine (HT1.out _ HE1.out).mono ?_; rintro e w' ⟨rfl, rfl⟩)
        | (go_at_call 95; refine (HT2.out _ HE1.out).mono ?_; rintro e w' ⟨rfl, rfl⟩))
    go_ret
    exact ⟨ret_b (by rw [HF.out]; try rfl), by first | exact HB1.out | exact Below.refl _ _⟩
  have gx : ix < 0 := by have := of_decide_eq_false HXF.out; omega
  cases d
  case true =>
    clear HFF HLL HZZ HXF
    go_enter Tryz.func43, Tryz.ntmps43
    go_wp2_with (first
        | (go_at_call 36; refine (HV.out _).mono ?_; rintro e w' ⟨rfl, rfl⟩)
        | (go_at_call 37; refine (HC.out _).mono ?_; rintro e w1 ⟨rfl, hb1⟩; have HB1 := Lib.hid hb1; have HE1 := Lib.hid (HE.out.below hb1); clear hb1)
        | (go_at_call 93; refine (HX.out _).mono ?_; rintro e w' ⟨rfl, rfl⟩)
        | (go_at_call 94; refine (HD.out _).mono ?_; rintro e w' ⟨rfl, rfl⟩)
        | (go_at_call 95; refine (HT1.out _ HE1.out).mono ?_; rintro e w' ⟨rfl, rfl⟩)
        | (go_at_call 95; refine (HT2.out _ HE1.out).mono ?_; rintro e w' ⟨rfl, rfl⟩))
    go_ret
    exact ⟨ret_b (by rw [HF.out]; try rfl), by first | exact HB1.out | exact Below.refl _ _⟩
  cases f
  case true =>
    have gf := bneB s[0] 32 (by have := of_decide_eq_true HFF.out.symm; omega)
    clear HFF HLL HZZ HXF
    go_enter Tryz.func43, Tryz.ntmps43
    go_wp2_with (first
        | (go_at_call 36; refine (HV.out _).mono ?_; rintro e w' ⟨rfl, rfl⟩)
        | (go_at_call 37; refine (HC.out _).mono ?_; rintro e w1 ⟨rfl, hb1⟩; have HB1 := Lib.hid hb1; have HE1 := Lib.hid (HE.out.below hb1); clear hb1)
        | (go_at_call 93; refine (HX.out _).mono ?_; rintro e w' ⟨rfl, rfl⟩)
        | (go_at_call 94; refine (HD.out _).mono ?_; rintro e w' ⟨rfl, rfl⟩)
        | (go_at_call 95; refine (HT1.out _ HE1.out).mono ?_; rintro e w' ⟨rfl, rfl⟩)
        | (go_at_call 95; refine (HT2.out _ HE1.out).mono ?_; rintro e w' ⟨rfl, rfl⟩))
    go_ret
    exact ⟨ret_b (by rw [HF.out]; try rfl), by first | exact HB1.out | exact Below.refl _ _⟩
  have gf := bneNB s[0] 32 (by have := of_decide_eq_false HFF.out.symm; omega)
  cases l
  case true =>
    have gl := bneB s[s.size - 1] 32 (by have := of_decide_eq_true HLL.out.symm; omega)
    clear HFF HLL HZZ HXF
    go_enter Tryz.func43, Tryz.ntmps43
    go_wp2_with (first
        | (go_at_call 36; refine (HV.out _).mono ?_; rintro e w' ⟨rfl, rfl⟩)
        | (go_at_call 37; refine (HC.out _).mono ?_; rintro e w1 ⟨rfl, hb1⟩; have HB1 := Lib.hid hb1; have HE1 := Lib.hid (HE.out.below hb1); clear hb1)
        | (go_at_call 93; refine (HX.out _).mono ?_; rintro e w' ⟨rfl, rfl⟩)
        | (go_at_call 94; refine (HD.out _).mono ?_; rintro e w' ⟨rfl, rfl⟩)
        | (go_at_call 95; refine (HT1.out _ HE1.out).mono ?_; rintro e w' ⟨rfl, rfl⟩)
        | (go_at_call 95; refine (HT2.out _ HE1.out).mono ?_; rintro e w' ⟨rfl, rfl⟩))
    go_ret
    exact ⟨ret_b (by rw [HF.out]; try rfl), by first | exact HB1.out | exact Below.refl _ _⟩
  have gl := bneNB s[s.size - 1] 32 (by have := of_decide_eq_false HLL.out.symm; omega)
  cases t1
  case true =>
    clear HFF HLL HZZ HXF
    go_enter Tryz.func43, Tryz.ntmps43
    go_wp2_with (first
        | (go_at_call 36; refine (HV.out _).mono ?_; rintro e w' ⟨rfl, rfl⟩)
        | (go_at_call 37; refine (HC.out _).mono ?_; rintro e w1 ⟨rfl, hb1⟩; have HB1 := Lib.hid hb1; have HE1 := Lib.hid (HE.out.below hb1); clear hb1)
        | (go_at_call 93; refine (HX.out _).mono ?_; rintro e w' ⟨rfl, rfl⟩)
        | (go_at_call 94; refine (HD.out _).mono ?_; rintro e w' ⟨rfl, rfl⟩)
        | (go_at_call 95; refine (HT1.out _ HE1.out).mono ?_; rintro e w' ⟨rfl, rfl⟩)
        | (go_at_call 95; refine (HT2.out _ HE1.out).mono ?_; rintro e w' ⟨rfl, rfl⟩))
    go_ret
    exact ⟨ret_b (by rw [HF.out]; try rfl), by first | exact HB1.out | exact Below.refl _ _⟩
  cases t2
  case true =>
    clear HFF HLL HZZ HXF
    go_enter Tryz.func43, Tryz.ntmps43
    go_wp2_with (first
        | (go_at_call 36; refine (HV.out _).mono ?_; rintro e w' ⟨rfl, rfl⟩)
        | (go_at_call 37; refine (HC.out _).mono ?_; rintro e w1 ⟨rfl, hb1⟩; have HB1 := Lib.hid hb1; have HE1 := Lib.hid (HE.out.below hb1); clear hb1)
        | (go_at_call 93; refine (HX.out _).mono ?_; rintro e w' ⟨rfl, rfl⟩)
        | (go_at_call 94; refine (HD.out _).mono ?_; rintro e w' ⟨rfl, rfl⟩)
        | (go_at_call 95; refine (HT1.out _ HE1.out).mono ?_; rintro e w' ⟨rfl, rfl⟩)
        | (go_at_call 95; refine (HT2.out _ HE1.out).mono ?_; rintro e w' ⟨rfl, rfl⟩))
    go_ret
    exact ⟨ret_b (by rw [HF.out]; try rfl), by first | exact HB1.out | exact Below.refl _ _⟩
  cases z
  case true =>
    have gz := bneB s[s.size - 1] 58 (by have := of_decide_eq_true HZZ.out.symm; omega)
    clear HFF HLL HZZ HXF
    go_enter Tryz.func43, Tryz.ntmps43
    go_wp2_with (first
        | (go_at_call 36; refine (HV.out _).mono ?_; rintro e w' ⟨rfl, rfl⟩)
        | (go_at_call 37; refine (HC.out _).mono ?_; rintro e w1 ⟨rfl, hb1⟩; have HB1 := Lib.hid hb1; have HE1 := Lib.hid (HE.out.below hb1); clear hb1)
        | (go_at_call 93; refine (HX.out _).mono ?_; rintro e w' ⟨rfl, rfl⟩)
        | (go_at_call 94; refine (HD.out _).mono ?_; rintro e w' ⟨rfl, rfl⟩)
        | (go_at_call 95; refine (HT1.out _ HE1.out).mono ?_; rintro e w' ⟨rfl, rfl⟩)
        | (go_at_call 95; refine (HT2.out _ HE1.out).mono ?_; rintro e w' ⟨rfl, rfl⟩))
    go_ret
    exact ⟨ret_b (by rw [HF.out]; try rfl), by first | exact HB1.out | exact Below.refl _ _⟩
  have gz := bneNB s[s.size - 1] 58 (by have := of_decide_eq_false HZZ.out.symm; omega)
  clear HFF HLL HZZ HXF
  go_enter Tryz.func43, Tryz.ntmps43
  go_wp2_with (first
      | (go_at_call 36; refine (HV.out _).mono ?_; rintro e w' ⟨rfl, rfl⟩)
      | (go_at_call 37; refine (HC.out _).mono ?_; rintro e w1 ⟨rfl, hb1⟩; have HB1 := Lib.hid hb1; have HE1 := Lib.hid (HE.out.below hb1); clear hb1)
      | (go_at_call 93; refine (HX.out _).mono ?_; rintro e w' ⟨rfl, rfl⟩)
      | (go_at_call 94; refine (HD.out _).mono ?_; rintro e w' ⟨rfl, rfl⟩)
      | (go_at_call 95; refine (HT1.out _ HE1.out).mono ?_; rintro e w' ⟨rfl, rfl⟩)
      | (go_at_call 95; refine (HT2.out _ HE1.out).mono ?_; rintro e w' ⟨rfl, rfl⟩))
  go_ret
  exact ⟨ret_b (by rw [HF.out]; try rfl), by first | exact HB1.out | exact Below.refl _ _⟩
end Go.Proofs.YtgddhkanfcpipaaGreatDoor

namespace Go.Proofs.YtgddhkanfcpipaaGreatDoor
open Go.RowKit
set_option maxHeartbeats 4000000
set_option maxRecDepth 100000

theorem clean_any (s : ByteArray) (w : World) (hs : s.size ≤ 1000000000) :
    Calls Tryz.prog 44 #[.string s] w fun e w' => e = .returned (.bool (!ctlB (L s) && validL (L s))) ∧ Below w.heap.size w w' := by
  have hm : s.size ≤ maxLen := by simp only [maxLen]; omega
  obtain ⟨c, hc⟩ : ∃ c, c = ctlB (L s) := ⟨_, rfl⟩
  rw [← hc]
  have HC0 : Hid (c = ctlB ((L s).drop 0)) := by unfold Hid; rw [List.drop_zero]; exact hc
  clear hc
  have HV := Lib.hid (fun w' => Valid3_any s w' hs)
  generalize validL (L s) = v at *
  go_enter Tryz.func44, Tryz.ntmps44
  go_wp2_with fail
  go_loopw [3] (fun iv wr => ∃ k : Nat, iv = .int .i64 (k : Int) ∧ k ≤ s.size ∧ Hid (c = ctlB ((L s).drop k)) ∧ w = wr) (fun iv _ => s.size - (intOf iv).toNat)
  case atStart => exact ⟨0, rfl, Nat.zero_le _, HC0.out, rfl⟩
  case round =>
    clear HC0
    obtain ⟨k, rfl, hks, HC, rfl⟩ := hrel
    have hk0 : (0 : Int) ≤ (k : Int) := by omega
    by_cases hlt : k < s.size
    case neg =>
      have hc : c = false := by rw [HC.out, L_drop_nil s k (by omega)]; rfl
      subst hc
      clear HC
      go_wp2_with (go_at_call 96; refine (HV.out _).mono ?_; rintro e w1 ⟨rfl, hb⟩)
      go_ret
      exact ⟨by simp, hb⟩
    have hst := HC.out
    rw [L_drop s k hlt] at hst
    have hst2 : c = (decide (s[k].toNat < 32) || ctlB ((L s).drop (k + 1))) := hst
    clear HC hst
    by_cases h32 : s[k].toNat < 32
    · have g : (s[k].toNat : Int) < 32 := by omega
      have hc : c = true := by rw [hst2, decide_eq_true h32]; rfl
      subst hc
      clear hst2 h32
      go_wp2_with fail
      go_ret
      exact ⟨by simp, Below.refl _ _⟩
    · have g : ¬ (s[k].toNat : Int) < 32 := by omega
      have HN : Hid (c = ctlB ((L s).drop (k + 1))) := by unfold Hid; rw [hst2, decide_eq_false h32]; rfl
      clear hst2 h32
      go_wp2_with fail
      exact ⟨⟨k + 1, by go_num, by omega, HN.out, trivial⟩, by simp [intOf]; omega⟩
theorem in_any (s : ByteArray) (b : UInt8) (w : World) (hs : s.size ≤ 1000000000) :
    Calls Tryz.prog 107 #[.string s, .int .u8 (b.toNat : Int)] w fun e w' => e = .returned (.bool ((L s).contains b)) ∧ w = w' := by
  have hm : s.size ≤ maxLen := by simp only [maxLen]; omega
  obtain ⟨c, hc⟩ : ∃ c, c = (L s).contains b := ⟨_, rfl⟩
  rw [← hc]
  have HC0 : Hid (c = ((L s).drop 0).contains b) := by unfold Hid; rw [List.drop_zero]; exact hc
  clear hc
  go_enter Tryz.func107, Tryz.ntmps107
  go_wp2_with fail
  go_loopw [5] (fun iv wr => ∃ k : Nat, iv = .int .i64 (k : Int) ∧ k ≤ s.size ∧ Hid (c = ((L s).drop k).contains b) ∧ w = wr) (fun iv _ => s.size - (intOf iv).toNat)
  case atStart => exact ⟨0, rfl, Nat.zero_le _, HC0.out, rfl⟩
  case round =>
    clear HC0
    obtain ⟨k, rfl, hks, HC, rfl⟩ := hrel
    have hk0 : (0 : Int) ≤ (k : Int) := by omega
    by_cases hlt : k < s.size
    case neg =>
      have hc : c = false := by rw [HC.out, L_drop_nil s k (by omega)]; rfl
      subst hc
      clear HC
      go_wp2_with fail
      go_ret
      exact ⟨rfl, rfl⟩
    have hst := HC.out
    rw [L_drop s k hlt, List.contains_cons] at hst
    clear HC
    by_cases hb : s[k] = b
    · have g : ((s[k].toNat : Int) == (b.toNat : Int)) = true := by rw [beq_iff_eq, hb]
      have hc : c = true := by rw [hst, beq_iff_eq.2 hb.symm]; rfl
      subst hc
      clear hst hb
      go_wp2_with fail
      go_ret
      exact ⟨rfl, rfl⟩
    · have g : ((s[k].toNat : Int) == (b.toNat : Int)) = false := by
        rw [beq_eq_false_iff_ne]
        intro h
        exact hb (UInt8.toNat_inj.1 (by omega))
      have HN : Hid (c = ((L s).drop (k + 1)).contains b) := by
        unfold Hid
        rw [hst, beq_eq_false_iff_ne.2 (fun h => hb h.symm)]
        rfl
      clear hst hb
      go_wp2_with fail
      exact ⟨⟨k + 1, by go_num, by omega, HN.out, trivial⟩, by simp [intOf]; omega⟩
theorem dash_any (s : ByteArray) (w : World) (hs : s.size ≤ 1000000000) :
    Calls Tryz.prog 108 #[.string s] w fun e w' => e = .returned (.bool (dashB (L s))) ∧ w = w' := by
  have hm : s.size ≤ maxLen := by simp only [maxLen]; omega
  have HD : Hid (dashB (L s) = (decide (L s = [45]) || pre (L s) [45, 32])) := rfl
  by_cases h : L s = [45]
  · have h1 : s = ⟨#[45]⟩ := L_inj h
    have HF : Hid (dashB (L s) = true) := by unfold Hid; rw [HD.out, decide_eq_true h]; rfl
    subst h1
    clear HD h hs hm
    go_enter Tryz.func108, Tryz.ntmps108
    go_wp2_with fail
    go_ret
    exact ⟨ret_b HF.out.symm, rfl⟩
  have h1 : (s.toList == [45]) = false := by rw [toList_L]; exact beq_false h
  have HF : Hid (dashB (L s) = pre (L s) [45, 32]) := by unfold Hid; rw [HD.out, decide_eq_false h]; rfl
  clear HD h
  by_cases h2 : 1 < s.size
  case neg =>
    have HG : Hid (dashB (L s) = false) := by
      unfold Hid
      rw [HF.out]
      unfold pre
      refine beq_false (fun h => ?_)
      have := congrArg List.length h
      rw [List.length_take, L_len] at this
      simp at this
      omega
    have g : ¬ (1 : Int) < (s.size : Int) := by omega
    clear HF h2
    go_enter Tryz.func108, Tryz.ntmps108
    go_wp2_with fail
    go_ret
    exact ⟨ret_b HG.out.symm, rfl⟩
  have g : (1 : Int) < (s.size : Int) := by omega
  have HX : Hid (((s.extract 0 2).toList == [45, 32]) = dashB (L s)) := by
    unfold Hid
    rw [HF.out, toList_L, L_upto]
    rfl
  generalize dashB (L s) = d at *
  clear HF
  have hx := HX.out
  cases d
  all_goals
    go_enter Tryz.func108, Tryz.ntmps108
    go_wp2_with fail
    go_ret
    exact ⟨rfl, rfl⟩
theorem ends3_any (s : ByteArray) (i : Nat) (w : World) (hs : s.size ≤ 1000000000) (hi : i ≤ s.size) :
    Calls Tryz.prog 57 #[.string s, .int .i64 i] w fun e w' => e = .returned (.bool (endH ((L s).drop i))) ∧ w = w' := by
  have hm : s.size ≤ maxLen := by simp only [maxLen]; omega
  by_cases hlt : i < s.size
  case neg =>
    have HF : Hid (endH ((L s).drop i) = false) := by unfold Hid; rw [L_drop_nil s i (by omega)]; rfl
    go_enter Tryz.func57, Tryz.ntmps57
    go_wp2_with fail
    go_ret
    exact ⟨ret_b HF.out.symm, rfl⟩
  have hE := endH_at s i hlt
  by_cases h58 : s[i].toNat = 58
  case neg =>
    have g := beqNB s[i] 58 (by omega)
    have HF : Hid (endH ((L s).drop i) = false) := by unfold Hid; rw [hE]; exact decide_eq_false (fun h => h58 h.1)
    clear hE h58
    go_enter Tryz.func57, Tryz.ntmps57
    go_wp2_with fail
    go_ret
    exact ⟨ret_b HF.out.symm, rfl⟩
  have g := beqB s[i] 58 (by omega)
  by_cases h1 : i + 1 < s.size
  case neg =>
    have g1 : ((i : Int) + 1 == (s.size : Int)) = true := by rw [beq_iff_eq]; omega
    have HF : Hid (endH ((L s).drop i) = true) := by unfold Hid; rw [hE]; exact decide_eq_true ⟨h58, .inl (by omega)⟩
    clear hE h58 h1
    go_enter Tryz.func57, Tryz.ntmps57
    go_wp2_with fail
    go_ret
    exact ⟨ret_b HF.out.symm, rfl⟩
  have g1 : ((i : Int) + 1 == (s.size : Int)) = false := by rw [beq_eq_false_iff_ne]; omega
  by_cases h32 : s[i + 1].toNat = 32
  · have g2 := beqB s[i + 1] 32 (by omega)
    have HF : Hid (endH ((L s).drop i) = true) := by unfold Hid; rw [hE]; exact decide_eq_true ⟨h58, .inr ⟨h1, h32⟩⟩
    clear hE h58 h32
    go_enter Tryz.func57, Tryz.ntmps57
    go_wp2_with fail
    go_ret
    exact ⟨ret_b HF.out.symm, rfl⟩
  · have g2 := beqNB s[i + 1] 32 (by omega)
    have HF : Hid (endH ((L s).drop i) = false) := by unfold Hid; rw [hE]; exact decide_eq_false (by rintro ⟨-, h | ⟨_, h⟩⟩ <;> omega)
    clear hE h58 h32
    go_enter Tryz.func57, Tryz.ntmps57
    go_wp2_with fail
    go_ret
    exact ⟨ret_b HF.out.symm, rfl⟩
theorem long_any (k : ByteArray) (n : Nat) (w : World) (_hs : k.size ≤ 100000000000) :
    Calls Tryz.prog 58 #[.string k, .int .i64 n] w fun e w' => e = .returned (.tuple #[.string ⟨(longK (L k) n).1.toArray⟩, .int .i64 (longK (L k) n).2.1, .int .i64 (longK (L k) n).2.2]) ∧ w = w' := by
  by_cases h : 1024 < k.size
  · have HF : Hid (longK (L k) n = ([], 0, 10)) := by unfold Hid longK; rw [if_pos (by rw [L_len]; exact h)]
    have g : (1024 : Int) < (k.size : Int) := by omega
    clear h
    go_enter Tryz.func58, Tryz.ntmps58
    go_wp2_with fail
    go_ret3
    exact ⟨ret3_str HF.out, rfl⟩
  · have HF : Hid (longK (L k) n = (L k, n, 0)) := by unfold Hid longK; rw [if_neg (by rw [L_len]; exact h)]
    have g : ¬ (1024 : Int) < (k.size : Int) := by omega
    clear h
    go_enter Tryz.func58, Tryz.ntmps58
    go_wp2_with fail
    go_ret3
    exact ⟨ret3_str (l := L k) HF.out, rfl⟩
/-- The pairs that a plain string may not contain. -/
def pairX (l : List UInt8) : Bool := two 58 32 l || two 32 35 l
theorem pairX_at (s : ByteArray) (k : Nat) (h : k < s.size) (h1 : k + 1 < s.size) : pairX ((L s).drop k) = ((decide (s[k].toNat = 58 ∧ s[k + 1].toNat = 32) || decide (s[k].toNat = 32 ∧ s[k + 1].toNat = 35)) || pairX ((L s).drop (k + 1))) := by
  unfold pairX
  have e1 : ∀ a b : UInt8, two a b ((L s).drop k) = (decide (s[k].toNat = a.toNat ∧ s[k + 1].toNat = b.toNat) || two a b ((L s).drop (k + 1))) := by
    intro a b
    conv => lhs; rw [L_drop s k h, two]
    congr 1
    rw [L_drop s (k + 1) h1, List.head?_cons, Bool.eq_iff_iff]
    simp only [Bool.and_eq_true, decide_eq_true_eq, Option.some.injEq, UInt8.toNat_inj]
  rw [e1 58 32, e1 32 35]
  show ((decide (s[k].toNat = 58 ∧ s[k + 1].toNat = 32) || _) || (decide (s[k].toNat = 32 ∧ s[k + 1].toNat = 35) || _)) = _
  generalize decide (s[k].toNat = 58 ∧ s[k + 1].toNat = 32) = a
  generalize decide (s[k].toNat = 32 ∧ s[k + 1].toNat = 35) = b
  generalize two 58 32 ((L s).drop (k + 1)) = c
  generalize two 32 35 ((L s).drop (k + 1)) = d
  cases a <;> cases b <;> cases c <;> cases d <;> rfl
theorem pairX_end (s : ByteArray) (k : Nat) (h1 : ¬ k + 1 < s.size) : pairX ((L s).drop k) = false := by
  by_cases h : k < s.size
  · unfold pairX
    rw [L_drop s k h, L_drop_nil s (k + 1) (by omega)]
    simp [two]
  · rw [L_drop_nil s k (by omega)]
    rfl
theorem IsPlain_any (s : ByteArray) (w : World) (hs : s.size ≤ 1000000000) :
    Calls Tryz.prog 51 #[.string s] w fun e w' => e = .returned (.bool (plainB (L s))) ∧ Below w.heap.size w w' := by
  have hm : s.size ≤ maxLen := by simp only [maxLen]; omega
  by_cases he : L s = []
  · have he1 : s.toList.isEmpty = true := by rw [empty_L]; simpa using he
    have HF : Hid (plainB (L s) = false) := by unfold Hid; rw [he]; rfl
    clear he
    go_enter Tryz.func51, Tryz.ntmps51
    go_wp2_with fail
    go_ret
    exact ⟨ret_b HF.out.symm, Below.refl _ _⟩
  have he1 : s.toList.isEmpty = false := by rw [empty_L]; simpa using he
  have hp := size_pos he
  have hq : s.size - 1 < s.size := by omega
  have hkp : 1 ≤ (s.size : Int) := by omega
  have hkl : (s.size : Int) - 1 < (s.size : Int) := by omega
  have hF := plainB_eq s hp hq
  have HPX : Hid (pairX ((L s).drop 0) = (two 58 32 (L s) || two 32 35 (L s))) := by unfold Hid; rw [List.drop_zero]; rfl
  have HC := Lib.hid (fun w' => clean_any s w' hs)
  have HX := Lib.hid (fun w' => in_any ⟨#[91, 93, 123, 125, 44, 35, 38, 42, 33, 124, 62, 39, 34, 37, 64, 96]⟩ s[0] w' (by decide))
  have ex : (L ⟨#[91, 93, 123, 125, 44, 35, 38, 42, 33, 124, 62, 39, 34, 37, 64, 96]⟩).contains s[0] = firstX.contains s[0] := rfl
  rw [ex] at HX
  have HD := Lib.hid (fun w' => dash_any s w' hs)
  generalize validL (L s) = v at *
  generalize ctlB (L s) = c at *
  generalize dashB (L s) = d at *
  generalize hx : firstX.contains s[0] = x at *
  obtain ⟨cl, hcl⟩ : ∃ cl, cl = (!c && v) := ⟨_, rfl⟩
  rw [← hcl] at HC
  have hF2 : plainB (L s) = (cl && !x && !d && !(decide (s[0].toNat = 32)) && !(decide (s[s.size - 1].toNat = 32)) && !(decide (s[s.size - 1].toNat = 58)) && !(two 58 32 (L s) || two 32 35 (L s))) := by
    rw [hF, hcl]
    generalize two 58 32 (L s) = t1
    generalize two 32 35 (L s) = t2
    generalize decide (s[0].toNat = 32) = f
    generalize decide (s[s.size - 1].toNat = 32) = l
    generalize decide (s[s.size - 1].toNat = 58) = z
    cases c <;> cases v <;> cases x <;> cases d <;> cases f <;> cases l <;> cases z <;> cases t1 <;> cases t2 <;> rfl
  clear hF he hx hcl ex
  rw [← HPX.out] at hF2
  generalize plainB (L s) = pb at *
  generalize hPP : pairX ((L s).drop 0) = pp at *
  clear HPX
  have HPP := Lib.hid hPP
  clear hPP
  obtain ⟨f, hf⟩ : ∃ f, f = decide (s[0].toNat = 32) := ⟨_, rfl⟩
  obtain ⟨l, hl⟩ : ∃ l, l = decide (s[s.size - 1].toNat = 32) := ⟨_, rfl⟩
  obtain ⟨z, hz⟩ : ∃ z, z = decide (s[s.size - 1].toNat = 58) := ⟨_, rfl⟩
  rw [← hf, ← hl, ← hz] at hF2
  have HF := Lib.hid hF2
  have HFF := Lib.hid hf
  have HLL := Lib.hid hl
  have HZZ := Lib.hid hz
  clear hf hl hz hF2
  cases cl
  case false =>
    clear HFF HLL HZZ
    go_enter Tryz.func51, Tryz.ntmps51
    go_wp2_with (first
        | (go_at_call 44; refine (HC.out _).mono ?_; rintro e w1 ⟨rfl, hb1⟩; have HB1 := Lib.hid hb1; clear hb1)
        | (go_at_call 107; refine (HX.out _).mono ?_; rintro e w' ⟨rfl, rfl⟩)
        | (go_at_call 108; refine (HD.out _).mono ?_; rintro e w' ⟨rfl, rfl⟩))
    go_ret
    exact ⟨ret_b (by rw [HF.out]; try rfl), HB1.out⟩
  cases x
  case true =>
    clear HFF HLL HZZ
    go_enter Tryz.func51, Tryz.ntmps51
    go_wp2_with (first
        | (go_at_call 44; refine (HC.out _).mono ?_; rintro e w1 ⟨rfl, hb1⟩; have HB1 := Lib.hid hb1; clear hb1)
        | (go_at_call 107; refine (HX.out _).mono ?_; rintro e w' ⟨rfl, rfl⟩)
        | (go_at_call 108; refine (HD.out _).mono ?_; rintro e w' ⟨rfl, rfl⟩))
    go_ret
    exact ⟨ret_b (by rw [HF.out]; try rfl), HB1.out⟩
  cases d
  case true =>
    clear HFF HLL HZZ
    go_enter Tryz.func51, Tryz.ntmps51
    go_wp2_with (first
        | (go_at_call 44; refine (HC.out _).mono ?_; rintro e w1 ⟨rfl, hb1⟩; have HB1 := Lib.hid hb1; clear hb1)
        | (go_at_call 107; refine (HX.out _).mono ?_; rintro e w' ⟨rfl, rfl⟩)
        | (go_at_call 108; refine (HD.out _).mono ?_; rintro e w' ⟨rfl, rfl⟩))
    go_ret
    exact ⟨ret_b (by rw [HF.out]; try rfl), HB1.out⟩
  cases f
  case true =>
    have gf := beqB s[0] 32 (by have := of_decide_eq_true HFF.out.symm; omega)
    clear HFF HLL HZZ
    go_enter Tryz.func51, Tryz.ntmps51
    go_wp2_with (first
        | (go_at_call 44; refine (HC.out _).mono ?_; rintro e w1 ⟨rfl, hb1⟩; have HB1 := Lib.hid hb1; clear hb1)
        | (go_at_call 107; refine (HX.out _).mono ?_; rintro e w' ⟨rfl, rfl⟩)
        | (go_at_call 108; refine (HD.out _).mono ?_; rintro e w' ⟨rfl, rfl⟩))
    go_ret
    exact ⟨ret_b (by rw [HF.out]; try rfl), HB1.out⟩
  have gf := beqNB s[0] 32 (by have := of_decide_eq_false HFF.out.symm; omega)
  cases l
  case true =>
    have gl := beqB s[s.size - 1] 32 (by have := of_decide_eq_true HLL.out.symm; omega)
    clear HFF HLL HZZ
    go_enter Tryz.func51, Tryz.ntmps51
    go_wp2_with (first
        | (go_at_call 44; refine (HC.out _).mono ?_; rintro e w1 ⟨rfl, hb1⟩; have HB1 := Lib.hid hb1; clear hb1)
        | (go_at_call 107; refine (HX.out _).mono ?_; rintro e w' ⟨rfl, rfl⟩)
        | (go_at_call 108; refine (HD.out _).mono ?_; rintro e w' ⟨rfl, rfl⟩))
    go_ret
    exact ⟨ret_b (by rw [HF.out]; try rfl), HB1.out⟩
  have gl := beqNB s[s.size - 1] 32 (by have := of_decide_eq_false HLL.out.symm; omega)
  cases z
  case true =>
    have gz := beqB s[s.size - 1] 58 (by have := of_decide_eq_true HZZ.out.symm; omega)
    clear HFF HLL HZZ
    go_enter Tryz.func51, Tryz.ntmps51
    go_wp2_with (first
        | (go_at_call 44; refine (HC.out _).mono ?_; rintro e w1 ⟨rfl, hb1⟩; have HB1 := Lib.hid hb1; clear hb1)
        | (go_at_call 107; refine (HX.out _).mono ?_; rintro e w' ⟨rfl, rfl⟩)
        | (go_at_call 108; refine (HD.out _).mono ?_; rintro e w' ⟨rfl, rfl⟩))
    go_ret
    exact ⟨ret_b (by rw [HF.out]; try rfl), HB1.out⟩
  have gz := beqNB s[s.size - 1] 58 (by have := of_decide_eq_false HZZ.out.symm; omega)
  have HG : Hid (pb = !pp) := by unfold Hid; rw [HF.out]; cases pp <;> rfl
  clear HF
  clear HFF HLL HZZ
  go_enter Tryz.func51, Tryz.ntmps51
  go_wp2_with (first
      | (go_at_call 44; refine (HC.out _).mono ?_; rintro e w1 ⟨rfl, hb1⟩; have HB1 := Lib.hid hb1; clear hb1)
      | (go_at_call 107; refine (HX.out _).mono ?_; rintro e w' ⟨rfl, rfl⟩)
      | (go_at_call 108; refine (HD.out _).mono ?_; rintro e w' ⟨rfl, rfl⟩))
  go_loopw [3] (fun iv wr => ∃ k : Nat, iv = .int .i64 (k : Int) ∧ k ≤ s.size ∧ Hid (pairX ((L s).drop k) = pp) ∧ w1 = wr) (fun iv _ => s.size - (intOf iv).toNat)
  case atStart => exact ⟨0, rfl, Nat.zero_le _, HPP.out, rfl⟩
  case round =>
    clear HPP
    obtain ⟨k, rfl, hks, HP, rfl⟩ := hrel
    have hk0 : (0 : Int) ≤ (k : Int) := by omega
    by_cases hl1 : k + 1 < s.size
    case neg =>
      have hpp : pp = false := by rw [← HP.out]; exact pairX_end s k hl1
      subst hpp
      have g1 : ¬ (k : Int) + 1 < (s.size : Int) := by omega
      clear HP
      go_wp2_with fail
      go_ret
      exact ⟨ret_b HG.out.symm, HB1.out⟩
    have hlt : k < s.size := by omega
    have g1 : (k : Int) + 1 < (s.size : Int) := by omega
    have hst := pairX_at s k hlt hl1
    rw [HP.out] at hst
    clear HP
    by_cases h58 : s[k].toNat = 58
    · have a1 := beqB s[k] 58 (by omega)
      have a2 := beqNB s[k] 32 (by omega)
      by_cases h32 : s[k + 1].toNat = 32
      · have a3 := beqB s[k + 1] 32 (by omega)
        have hpp : pp = true := by rw [hst, decide_eq_true ⟨h58, h32⟩]; rfl
        subst hpp
        clear hst h58 h32
        go_wp2_with fail
        go_ret
        exact ⟨ret_b HG.out.symm, HB1.out⟩
      · have a3 := beqNB s[k + 1] 32 (by omega)
        have HN : Hid (pairX ((L s).drop (k + 1)) = pp) := by
          unfold Hid
          rw [hst, decide_eq_false (fun h => h32 h.2), decide_eq_false (fun h => by omega)]
          rfl
        clear hst h58 h32
        go_wp2_with fail
        exact ⟨⟨k + 1, by go_num, by omega, HN.out, trivial⟩, by simp [intOf]; omega⟩
    have a1 := beqNB s[k] 58 (by omega)
    by_cases h3 : s[k].toNat = 32
    · have a2 := beqB s[k] 32 (by omega)
      by_cases h35 : s[k + 1].toNat = 35
      · have a3 := beqB s[k + 1] 35 (by omega)
        have hpp : pp = true := by rw [hst, decide_eq_true (show s[k].toNat = 32 ∧ s[k + 1].toNat = 35 from ⟨h3, h35⟩), Bool.or_true]; rfl
        subst hpp
        clear hst h58 h3 h35
        go_wp2_with fail
        go_ret
        exact ⟨ret_b HG.out.symm, HB1.out⟩
      · have a3 := beqNB s[k + 1] 35 (by omega)
        have HN : Hid (pairX ((L s).drop (k + 1)) = pp) := by
          unfold Hid
          rw [hst, decide_eq_false (fun h => h58 h.1), decide_eq_false (fun h => h35 h.2)]
          rfl
        clear hst h58 h3 h35
        go_wp2_with fail
        exact ⟨⟨k + 1, by go_num, by omega, HN.out, trivial⟩, by simp [intOf]; omega⟩
    · have a2 := beqNB s[k] 32 (by omega)
      have HN : Hid (pairX ((L s).drop (k + 1)) = pp) := by
        unfold Hid
        rw [hst, decide_eq_false (fun h => h58 h.1), decide_eq_false (fun h => h3 h.1)]
        rfl
      clear hst h58 h3
      go_wp2_with fail
      exact ⟨⟨k + 1, by go_num, by omega, HN.out, trivial⟩, by simp [intOf]; omega⟩
end Go.Proofs.YtgddhkanfcpipaaGreatDoor

namespace Go.Proofs.YtgddhkanfcpipaaGreatDoor
open Go.RowKit
set_option maxHeartbeats 1000000
set_option maxRecDepth 100000

theorem keyN_at (s : ByteArray) (k : Nat) (h : k < s.size) : keyN ((L s).drop k) = if endH ((L s).drop k) then 0 else 1 + keyN ((L s).drop (k + 1)) := by
  conv => lhs; rw [L_drop s k h, keyN]
  rw [← L_drop s k h]
theorem oneL_quot (t : List UInt8) : oneL ((34 : UInt8) :: t) = tok 5 (1 + (quotL t).2.1, (quotL t).2.2) := by
  simp only [oneL]
  rw [if_neg (by decide), if_neg (by decide), if_neg (by decide), if_neg (by decide), if_pos (by decide)]
theorem keyR_at (s : ByteArray) (hp : 0 < s.size) : keyR (L s) =
    if s[0].toNat = 34 then (if (quotR ((L s).drop 1)).2.2 ≠ 0 then noK else if endH ((L s).drop (quotR ((L s).drop 1)).2.1) then longK (quotR ((L s).drop 1)).1 (quotR ((L s).drop 1)).2.1 else noK)
    else if s[0].toNat = 39 then (if (singR ((L s).drop 1)).2.2 ≠ 0 then noK else if endH ((L s).drop (singR ((L s).drop 1)).2.1) then longK (singR ((L s).drop 1)).1 (singR ((L s).drop 1)).2.1 else noK)
    else if plainB ((L s).take (keyN (L s))) then (if endH ((L s).drop (keyN (L s))) then longK ((L s).take (keyN (L s))) (keyN (L s)) else noK) else noK := by
  have h := L_drop s 0 hp
  rw [List.drop_zero, Nat.zero_add] at h
  conv => lhs; rw [h]
  rw [keyR, ← h]
/-- What a key that is not too long is. -/
theorem longK_no {k : List UInt8} {n : Nat} (h : 1024 < k.length) : longK k n = ([], 0, 10) := if_pos h
theorem longK_ok {k : List UInt8} {n : Nat} (h : ¬ 1024 < k.length) : longK k n = (k, n, 0) := if_neg h
theorem KeyI_any (s : ByteArray) (w : World) (hs : s.size ≤ 1000000000) (hE : EnvI w) :
    Calls Tryz.prog 17 #[.string s] w fun e w' => e = .returned (.tuple #[.string ⟨(keyR (L s)).1.toArray⟩, .int .i64 (keyR (L s)).2.1, .int .i64 (keyR (L s)).2.2]) ∧ Below w.heap.size w w' := by
  have hm : s.size ≤ maxLen := by simp only [maxLen]; omega
  have HE := Lib.hid hE
  clear hE
  by_cases he : L s = []
  · have he1 : s.toList.isEmpty = true := by rw [empty_L]; simpa using he
    have HF : Hid (keyR (L s) = ([], 0, 7)) := by unfold Hid; rw [he]; rfl
    clear he
    go_enter Tryz.func17, Tryz.ntmps17
    go_wp2_with fail
    go_ret3
    exact ⟨ret3_str HF.out, Below.refl _ _⟩
  have he1 : s.toList.isEmpty = false := by rw [empty_L]; simpa using he
  have hp := size_pos he
  have hX := keyR_at s hp
  generalize hkr : keyR (L s) = kr at *
  clear he hkr
  have HEN := Lib.hid (fun n w' hn => ends_any s n w' hs hn)
  by_cases h34 : s[0].toNat = 34
  case pos =>
    have g := beqB s[0] 34 (by omega)
    rw [if_pos h34] at hX
    have hl := L_drop s 0 hp
    rw [List.drop_zero, Nat.zero_add, show s[0] = 34 from UInt8.toNat_inj.1 h34] at hl
    have hN : nextV s 0 = if (oneL (L s)).2.2 ≠ 0 then (.agg #[.int .i64 0, .string ⟨#[]⟩, .int .i64 0], (oneL (L s)).2.2) else (.agg #[.int .i64 (oneL (L s)).1, .string (s.extract 0 (oneL (L s)).2.1), .int .i64 0], 0) := by
      unfold nextV
      rw [List.drop_zero, Nat.zero_add]
      rfl
    have h1 : oneL (L s) = tok 5 (1 + (quotL ((L s).drop 1)).2.1, (quotL ((L s).drop 1)).2.2) := by
      conv => lhs; rw [hl]
      rw [oneL_quot]
    have HNX := Lib.hid (fun w' => Next_any s 0 w' hp (by omega))
    rw [hN, h1] at HNX
    clear hN h1 h34
    by_cases h0 : (quotL ((L s).drop 1)).2.2 = 0
    case neg =>
      have e1 : tok 5 (1 + (quotL ((L s).drop 1)).2.1, (quotL ((L s).drop 1)).2.2) = (0, 0, (quotL ((L s).drop 1)).2.2) := if_pos h0
      rw [e1] at HNX
      dsimp only at HNX
      rw [if_pos h0] at HNX
      have hq : (quotR ((L s).drop 1)).2.2 ≠ 0 := fun h => h0 (fin_ok (a := []) (k := 1) h).1
      have HF : Hid (kr = ([], 0, 7)) := by unfold Hid; rw [hX, if_pos hq]; rfl
      generalize (quotL ((L s).drop 1)).2.2 = er at *
      have g2 : ((er : Int) != 0) = true := by rw [bne_iff_ne]; omega
      clear hX hl h0 hq e1
      go_enter Tryz.func17, Tryz.ntmps17
      go_wp2_with (go_at_call 52; refine (HNX.out _).mono ?_; rintro e w1 ⟨rfl, hb1⟩)
      go_ret3
      exact ⟨ret3_str HF.out, hb1.alloc hb1.size _⟩
    have hx : quotL ((L s).drop 1) = ((quotL ((L s).drop 1)).1, (quotL ((L s).drop 1)).2.1, 0) := by rw [← h0]
    obtain ⟨i1, -, -, i4⟩ := quot_cut _ ((L s).drop 1) _ _ (Nat.le_refl _) hx
    have hu := unq_cut ((L s).drop 1) _ _ hx
    have hq : quotR ((L s).drop 1) = ((quotL ((L s).drop 1)).1, 1 + (quotL ((L s).drop 1)).2.1, 0) := by unfold quotR; rw [fin_of h0]; rfl
    rw [hq] at hX
    simp only [ne_eq, not_true_eq_false, if_false] at hX
    have e1 : tok 5 (1 + (quotL ((L s).drop 1)).2.1, (quotL ((L s).drop 1)).2.2) = (5, 1 + (quotL ((L s).drop 1)).2.1, 0) := if_neg (fun h => h h0)
    rw [e1] at HNX
    simp only [ne_eq, not_true_eq_false, if_false] at HNX
    have hut : ∀ m, L (s.extract 0 (1 + m)) = 34 :: ((L s).drop 1).take m := by
      intro m
      rw [L_upto, Nat.add_comm]
      conv => lhs; rw [hl]
      rw [List.take_succ_cons]
    rw [← hut] at hu
    rw [List.length_drop, L_len] at i1
    generalize (quotL ((L s).drop 1)).1 = x at *
    generalize (quotL ((L s).drop 1)).2.1 = m at *
    clear hx hq h0 e1 hl hut
    have hsz : (s.extract 0 (1 + m)).size = 1 + m := by rw [ByteArray.size_extract]; omega
    generalize s.extract 0 (1 + m) = tt at *
    have HUQ := Lib.hid (fun w' => Unquote_any tt w' (by omega))
    rw [hu] at HUQ
    rw [← hsz] at hX
    have HEQ := Lib.hid (fun w' => HEN.out tt.size w' (by omega))
    have hnn : tt.size ≤ s.size := by omega
    clear hu hsz
    clear i1 i4 HEN
    have HBB : Hid (∀ (w1 w2 : World) (o : Obj), Below w.heap.size w w1 → Below (w1.alloc o).heap.size (w1.alloc o) w2 → Below w.heap.size w w2) := by
      intro w1 w2 o h1 h2
      exact (h1.alloc h1.size o).trans (h2.mono (h1.alloc h1.size o).size)
    obtain ⟨xb, hxb⟩ : ∃ xb : ByteArray, (⟨x.toArray⟩ : ByteArray) = xb := ⟨_, rfl⟩
    have hxl : x = L xb := by rw [← hxb, L_mk]
    rw [hxb] at HUQ
    rw [hxl] at hX
    clear hxb hxl
    cases hen : endH ((L s).drop tt.size)
    case false =>
      rw [hen] at HEQ hX
      have HF : Hid (kr = ([], 0, 7)) := by unfold Hid; rw [hX]; rfl
      clear hX hen
      go_enter Tryz.func17, Tryz.ntmps17
      go_wp2_with (first
        | (go_at_call 52; refine (HNX.out _).mono ?_; rintro e w1 ⟨rfl, hb1⟩; have HB1 := Lib.hid hb1; clear hb1)
        | (go_at_call 53; refine (HUQ.out _).mono ?_; rintro e w2 ⟨rfl, hb2⟩; have HB2 := Lib.hid hb2; clear hb2)
        | (go_at_call 54; refine (HSI.out _).mono ?_; rintro e w2 ⟨rfl, hb2⟩; have HB2 := Lib.hid hb2; clear hb2)
        | (go_at_call 55; refine (HEQ.out _).mono ?_; rintro e w' ⟨rfl, rfl⟩))
      go_ret3
      exact ⟨ret3_str HF.out, HBB.out _ _ _ HB1.out HB2.out⟩
    rw [hen] at HEQ hX
    rw [if_pos rfl] at hX
    by_cases hlg : 1024 < xb.size
    · have HF : Hid (kr = ([], 0, 10)) := by unfold Hid; rw [hX, longK_no (by rw [L_len]; exact hlg)]
      have gl : (1024 : Int) < (xb.size : Int) := by omega
      clear hX hen hlg
      go_enter Tryz.func17, Tryz.ntmps17
      go_wp2_with (first
        | (go_at_call 52; refine (HNX.out _).mono ?_; rintro e w1 ⟨rfl, hb1⟩; have HB1 := Lib.hid hb1; clear hb1)
        | (go_at_call 53; refine (HUQ.out _).mono ?_; rintro e w2 ⟨rfl, hb2⟩; have HB2 := Lib.hid hb2; clear hb2)
        | (go_at_call 54; refine (HSI.out _).mono ?_; rintro e w2 ⟨rfl, hb2⟩; have HB2 := Lib.hid hb2; clear hb2)
        | (go_at_call 55; refine (HEQ.out _).mono ?_; rintro e w' ⟨rfl, rfl⟩))
      go_ret3
      exact ⟨ret3_str HF.out, HBB.out _ _ _ HB1.out HB2.out⟩
    · have HF : Hid (kr = (L xb, tt.size, 0)) := by unfold Hid; rw [hX, longK_ok (by rw [L_len]; exact hlg)]
      have gl : ¬ (1024 : Int) < (xb.size : Int) := by omega
      clear hX hen hlg
      go_enter Tryz.func17, Tryz.ntmps17
      go_wp2_with (first
        | (go_at_call 52; refine (HNX.out _).mono ?_; rintro e w1 ⟨rfl, hb1⟩; have HB1 := Lib.hid hb1; clear hb1)
        | (go_at_call 53; refine (HUQ.out _).mono ?_; rintro e w2 ⟨rfl, hb2⟩; have HB2 := Lib.hid hb2; clear hb2)
        | (go_at_call 54; refine (HSI.out _).mono ?_; rintro e w2 ⟨rfl, hb2⟩; have HB2 := Lib.hid hb2; clear hb2)
        | (go_at_call 55; refine (HEQ.out _).mono ?_; rintro e w' ⟨rfl, rfl⟩))
      go_ret3
      exact ⟨ret3_str (l := L xb) HF.out, HBB.out _ _ _ HB1.out HB2.out⟩
  have g := beqNB s[0] 34 (by omega)
  rw [if_neg h34] at hX
  by_cases h39 : s[0].toNat = 39
  case pos =>
    have g2 := beqB s[0] 39 (by omega)
    rw [if_pos h39] at hX
    have HSI := Lib.hid (fun w' => single_any s w' hp hs)
    have hxl : (singR ((L s).drop 1)).2.2 = 0 → (singR ((L s).drop 1)).2.1 ≤ s.size := by
      intro h0
      have h1 := fin_ok (a := []) (k := 1) (x := singL ((L s).drop 1)) h0
      have hx : singL ((L s).drop 1) = ((singL ((L s).drop 1)).1, (singL ((L s).drop 1)).2.1, 0) := by rw [← h1.1]
      obtain ⟨i1, -⟩ := sing_cut _ ((L s).drop 1) _ _ (Nat.le_refl _) hx
      unfold singR
      rw [h1.2]
      rw [List.length_drop, L_len] at i1
      show 1 + _ ≤ _
      omega
    clear h34 h39
    generalize singR ((L s).drop 1) = sr at *
    obtain ⟨x, n, er⟩ := sr
    dsimp only at hX HSI hxl
    by_cases h0 : er = 0
    case neg =>
      have g3 : ((er : Int) != 0) = true := by rw [bne_iff_ne]; omega
      have HF : Hid (kr = ([], 0, 7)) := by unfold Hid; rw [hX, if_pos h0]; rfl
      clear hX hxl h0 HEN
      go_enter Tryz.func17, Tryz.ntmps17
      go_wp2_with (go_at_call 54; refine (HSI.out _).mono ?_; rintro e w2 ⟨rfl, hb2⟩; have HB2 := Lib.hid hb2; clear hb2)
      go_ret3
      exact ⟨ret3_str HF.out, HB2.out⟩
    subst h0
    rw [if_neg (by simp)] at hX
    have hnn := hxl rfl
    have HEQ := Lib.hid (fun w' => HEN.out n w' hnn)
    clear hxl HEN
    obtain ⟨xb, hxb⟩ : ∃ xb : ByteArray, (⟨x.toArray⟩ : ByteArray) = xb := ⟨_, rfl⟩
    have hxl : x = L xb := by rw [← hxb, L_mk]
    rw [hxb] at HSI
    rw [hxl] at hX
    clear hxb hxl
    cases hen : endH ((L s).drop n)
    case false =>
      rw [hen] at HEQ hX
      have HF : Hid (kr = ([], 0, 7)) := by unfold Hid; rw [hX]; rfl
      clear hX hen
      go_enter Tryz.func17, Tryz.ntmps17
      go_wp2_with (first
        | (go_at_call 52; refine (HNX.out _).mono ?_; rintro e w1 ⟨rfl, hb1⟩; have HB1 := Lib.hid hb1; clear hb1)
        | (go_at_call 53; refine (HUQ.out _).mono ?_; rintro e w2 ⟨rfl, hb2⟩; have HB2 := Lib.hid hb2; clear hb2)
        | (go_at_call 54; refine (HSI.out _).mono ?_; rintro e w2 ⟨rfl, hb2⟩; have HB2 := Lib.hid hb2; clear hb2)
        | (go_at_call 55; refine (HEQ.out _).mono ?_; rintro e w' ⟨rfl, rfl⟩))
      go_ret3
      exact ⟨ret3_str HF.out, HB2.out⟩
    rw [hen] at HEQ hX
    rw [if_pos rfl] at hX
    by_cases hlg : 1024 < xb.size
    · have HF : Hid (kr = ([], 0, 10)) := by unfold Hid; rw [hX, longK_no (by rw [L_len]; exact hlg)]
      have gl : (1024 : Int) < (xb.size : Int) := by omega
      clear hX hen hlg
      go_enter Tryz.func17, Tryz.ntmps17
      go_wp2_with (first
        | (go_at_call 52; refine (HNX.out _).mono ?_; rintro e w1 ⟨rfl, hb1⟩; have HB1 := Lib.hid hb1; clear hb1)
        | (go_at_call 53; refine (HUQ.out _).mono ?_; rintro e w2 ⟨rfl, hb2⟩; have HB2 := Lib.hid hb2; clear hb2)
        | (go_at_call 54; refine (HSI.out _).mono ?_; rintro e w2 ⟨rfl, hb2⟩; have HB2 := Lib.hid hb2; clear hb2)
        | (go_at_call 55; refine (HEQ.out _).mono ?_; rintro e w' ⟨rfl, rfl⟩))
      go_ret3
      exact ⟨ret3_str HF.out, HB2.out⟩
    · have HF : Hid (kr = (L xb, n, 0)) := by unfold Hid; rw [hX, longK_ok (by rw [L_len]; exact hlg)]
      have gl : ¬ (1024 : Int) < (xb.size : Int) := by omega
      clear hX hen hlg
      go_enter Tryz.func17, Tryz.ntmps17
      go_wp2_with (first
        | (go_at_call 52; refine (HNX.out _).mono ?_; rintro e w1 ⟨rfl, hb1⟩; have HB1 := Lib.hid hb1; clear hb1)
        | (go_at_call 53; refine (HUQ.out _).mono ?_; rintro e w2 ⟨rfl, hb2⟩; have HB2 := Lib.hid hb2; clear hb2)
        | (go_at_call 54; refine (HSI.out _).mono ?_; rintro e w2 ⟨rfl, hb2⟩; have HB2 := Lib.hid hb2; clear hb2)
        | (go_at_call 55; refine (HEQ.out _).mono ?_; rintro e w' ⟨rfl, rfl⟩))
      go_ret3
      exact ⟨ret3_str (l := L xb) HF.out, HB2.out⟩
  have g2 := beqNB s[0] 39 (by omega)
  rw [if_neg h39] at hX
  have hkl := keyN_le (L s)
  rw [L_len] at hkl
  obtain ⟨n, hn⟩ : ∃ n, n = keyN (L s) := ⟨_, rfl⟩
  rw [← hn] at hX hkl
  have HK0 : Hid (n = 0 + keyN ((L s).drop 0)) := by unfold Hid; rw [List.drop_zero, Nat.zero_add]; exact hn
  clear hn h34 h39
  go_enter Tryz.func17, Tryz.ntmps17
  go_wp2_with fail
  go_loopw [5] (fun iv wr => ∃ k : Nat, iv = .int .i64 (k : Int) ∧ k ≤ s.size ∧ Hid (n = k + keyN ((L s).drop k)) ∧ w = wr) (fun iv _ => s.size - (intOf iv).toNat)
  case atStart => exact ⟨0, rfl, Nat.zero_le _, HK0.out, rfl⟩
  case round =>
    clear HK0
    obtain ⟨k, rfl, hks, HK, rfl⟩ := hrel
    have hk0 : (0 : Int) ≤ (k : Int) := by omega
    by_cases hgo : k < s.size ∧ endH ((L s).drop k) = false
    case pos =>
      obtain ⟨hlt, hen⟩ := hgo
      have HEQ := Lib.hid (fun w' => HEN.out k w' hks)
      rw [hen] at HEQ
      have HN : Hid (n = (k + 1) + keyN ((L s).drop (k + 1))) := by
        unfold Hid
        rw [HK.out, keyN_at s k hlt, hen, if_neg (by simp)]
        omega
      clear HK hen hX
      go_wp2_with (go_at_call 55; refine (HEQ.out _).mono ?_; rintro e w' ⟨rfl, rfl⟩)
      exact ⟨⟨k + 1, by go_num, by omega, HN.out, trivial⟩, by simp [intOf]; omega⟩
    case neg =>
      have hnk : n = k := by
        rw [HK.out]
        by_cases hlt : k < s.size
        · rw [keyN_at s k hlt]
          have : endH ((L s).drop k) = true := by
            cases h : endH ((L s).drop k)
            · exact absurd ⟨hlt, h⟩ hgo
            · rfl
          rw [this, if_pos rfl]
          omega
        · rw [L_drop_nil s k (by omega)]
          rfl
      subst hnk
      have HEQ := Lib.hid (fun w' => HEN.out n w' hks)
      have hel : n < s.size → endH ((L s).drop n) = true := by
        intro hlt
        cases h : endH ((L s).drop n)
        · exact absurd ⟨hlt, h⟩ hgo
        · rfl
      have hnl : ¬ n < s.size → endH ((L s).drop n) = false := fun h => by rw [L_drop_nil s n (by omega)]; rfl
      have hxL : L (s.extract 0 n) = (L s).take n := L_upto s n
      have hxz : (s.extract 0 n).size = n := by rw [ByteArray.size_extract]; omega
      have HLO := Lib.hid (fun w' (h : EnvI w') => loose_any (s.extract 0 n) w' (by omega) h)
      rw [← hxL] at hX
      clear HK hgo HEN hxL
      by_cases hlt : n < s.size
      case neg =>
        have hen := hnl hlt
        rw [hen] at hX HEQ
        have HF : Hid (kr = ([], 0, 7)) := by unfold Hid; rw [hX]; split <;> rfl
        clear hX hel hnl hen
        cases hpl : plainB (L (s.extract 0 n))
        all_goals
          rw [hpl] at HLO
          clear hpl
          go_wp2_with (first
            | (go_at_call 43; refine (HLO.out _ HE.out).mono ?_; rintro e w1 ⟨rfl, hb1⟩; have HB1 := Lib.hid hb1; clear hb1)
            | (go_at_call 55; refine (HEQ.out _).mono ?_; rintro e w' ⟨rfl, rfl⟩))
          go_ret3
          exact ⟨ret3_str HF.out, HB1.out⟩
      have hen := hel hlt
      rw [hen] at hX HEQ
      rw [if_pos rfl] at hX
      clear hel hnl hen
      cases hpl : plainB (L (s.extract 0 n))
      case false =>
        rw [hpl] at HLO hX
        have HF : Hid (kr = ([], 0, 7)) := by unfold Hid; rw [hX]; rfl
        clear hX hpl
        go_wp2_with (first
          | (go_at_call 43; refine (HLO.out _ HE.out).mono ?_; rintro e w1 ⟨rfl, hb1⟩; have HB1 := Lib.hid hb1; clear hb1)
          | (go_at_call 55; refine (HEQ.out _).mono ?_; rintro e w' ⟨rfl, rfl⟩))
        go_ret3
        exact ⟨ret3_str HF.out, HB1.out⟩
      rw [hpl] at HLO hX
      rw [if_pos rfl] at hX
      by_cases hlg : 1024 < n
      · have HF : Hid (kr = ([], 0, 10)) := by unfold Hid; rw [hX, longK_no (by rw [L_len, hxz]; exact hlg)]
        have gl : (1024 : Int) < (n : Int) := by omega
        clear hX hpl hlg
        go_wp2_with (first
          | (go_at_call 43; refine (HLO.out _ HE.out).mono ?_; rintro e w1 ⟨rfl, hb1⟩; have HB1 := Lib.hid hb1; clear hb1)
          | (go_at_call 55; refine (HEQ.out _).mono ?_; rintro e w' ⟨rfl, rfl⟩))
        go_ret3
        exact ⟨ret3_str HF.out, HB1.out⟩
      · have HF : Hid (kr = (L (s.extract 0 n), n, 0)) := by unfold Hid; rw [hX, longK_ok (by rw [L_len, hxz]; exact hlg)]
        have gl : ¬ (1024 : Int) < (n : Int) := by omega
        clear hX hpl hlg
        go_wp2_with (first
          | (go_at_call 43; refine (HLO.out _ HE.out).mono ?_; rintro e w1 ⟨rfl, hb1⟩; have HB1 := Lib.hid hb1; clear hb1)
          | (go_at_call 55; refine (HEQ.out _).mono ?_; rintro e w' ⟨rfl, rfl⟩))
        go_ret3
        exact ⟨ret3_str (l := L (s.extract 0 n)) HF.out, HB1.out⟩
end Go.Proofs.YtgddhkanfcpipaaGreatDoor

namespace Go.Proofs.YtgddhkanfcpipaaGreatDoor
open Go.RowKit
set_option maxHeartbeats 2000000
set_option maxRecDepth 100000

/-- What the reference makes of a quoted string in apostrophes. -/
def unqF (n : Nat) (x : List UInt8 × Nat × Nat) : List UInt8 × Nat := if x.2.2 ≠ 0 then ([], x.2.2) else if x.2.1 < n then ([], 3) else (x.1, 0)
theorem UnquoteR_any (s : ByteArray) (w : World) (hs : s.size ≤ 1000000000) :
    Calls Tryz.prog 22 #[.string s] w fun e w' => e = .returned (.tuple #[.string ⟨(unqR (L s)).1.toArray⟩, .int .i64 (unqR (L s)).2]) ∧ Below w.heap.size w w' := by
  have hm : s.size ≤ maxLen := by simp only [maxLen]; omega
  by_cases he : L s = []
  · have he1 : s.toList.isEmpty = true := by rw [empty_L]; simpa using he
    have HF : Hid (unqR (L s) = ([], 4)) := by unfold Hid; rw [he]; rfl
    clear he
    go_enter Tryz.func22, Tryz.ntmps22
    go_wp2_with fail
    go_ret2
    exact ⟨ret2_str HF.out, Below.refl _ _⟩
  have he1 : s.toList.isEmpty = false := by rw [empty_L]; simpa using he
  have hp := size_pos he
  have HX := Lib.hid (unqR_at s hp)
  clear he
  by_cases h34 : s[0].toNat = 34
  · have g := beqB s[0] 34 (by omega)
    have HF : Hid (unqR (L s) = unqL (L s)) := by unfold Hid; rw [HX.out, if_pos h34]
    have HU := Lib.hid (fun w' => Unquote3_any s w' (by omega))
    rw [← HF.out] at HU
    clear HX h34 HF
    generalize unqR (L s) = u at *
    go_enter Tryz.func22, Tryz.ntmps22
    go_wp2_with (go_at_call 61; refine (HU.out _).mono ?_; rintro e w1 ⟨rfl, hb⟩)
    go_ret2
    exact ⟨rfl, hb⟩
  have g := beqNB s[0] 34 (by omega)
  by_cases h39 : s[0].toNat = 39
  case neg =>
    have g2 := bneNB s[0] 39 (by omega)
    have HF : Hid (unqR (L s) = ([], 3)) := by unfold Hid; rw [HX.out, if_neg h34, if_pos h39]
    clear HX h34 h39
    go_enter Tryz.func22, Tryz.ntmps22
    go_wp2_with fail
    go_ret2
    exact ⟨ret2_str HF.out, Below.refl _ _⟩
  have g2 := bneB s[0] 39 (by omega)
  have hY : unqR (L s) = unqF s.size (singR ((L s).drop 1)) := by
    rw [HX.out, if_neg h34, if_neg (by simpa using h39)]
    rfl
  generalize unqR (L s) = u at *
  have HY0 : Hid (u = unqF s.size (quotFin (L ⟨#[]⟩) 1 (singL ((L s).drop 1)))) := hY
  clear HX h34 h39 hY
  go_enter Tryz.func22, Tryz.ntmps22
  go_wp2_with fail
  go_loopw [4, 5, 6, 7] (fun ov iv _ _ wr => ∃ (k : Nat) (o : ByteArray), ov = .string o ∧ iv = .int .i64 (k : Int) ∧ 1 ≤ k ∧ k ≤ s.size ∧ o.size ≤ k ∧ Hid (u = unqF s.size (quotFin (L o) k (singL ((L s).drop k)))) ∧ Hid (Below w.heap.size w wr)) (fun _ iv _ _ _ => s.size - (intOf iv).toNat)
  case atStart => exact ⟨1, ⟨#[]⟩, rfl, rfl, Nat.le_refl _, hp, Nat.zero_le _, HY0.out, Below.refl _ _⟩
  case round =>
    clear HY0
    obtain ⟨k, o, rfl, rfl, hk1, hks, hok, HY, HBW⟩ := hrel
    have hk0 : (0 : Int) ≤ (k : Int) := by omega
    by_cases hlt : k < s.size
    case neg =>
      have HF : Hid (u = ([], 4)) := by unfold Hid; rw [HY.out, L_drop_nil s k (by omega), singL_nil]; rfl
      clear HY
      go_wp2_with fail
      go_ret2
      exact ⟨ret2_str HF.out, HBW.out⟩
    have hQ := singL_cons s[k] ((L s).drop (k + 1))
    rw [← L_drop s k hlt] at hQ
    have HQ := Lib.hid hQ; clear hQ
    have HDE := Lib.hid (fun w' => Decode3_any s k w' hm)
    by_cases h39 : s[k].toNat = 39
    case pos =>
      have g3 := beqB s[k] 39 (by omega)
      by_cases hl : k + 1 < s.size
      case neg =>
        have g4 : ((k : Int) + 1 == (s.size : Int)) = true := by rw [beq_iff_eq]; omega
        have HF : Hid (u = (L o, 0)) := by unfold Hid; rw [HY.out, HQ.out, if_pos h39, L_drop_nil s (k + 1) (by omega), if_neg (by simp), fin_of rfl, List.append_nil]; unfold unqF; rw [if_neg (by simp), if_neg (by omega)]
        have g5 : ¬ (k : Int) + 1 < (s.size : Int) := by omega
        clear h39 HY HQ hl
        go_wp2_with fail
        go_ret2
        exact ⟨ret2_str (l := L o) HF.out, HBW.out⟩
      have g4 : ((k : Int) + 1 == (s.size : Int)) = false := by rw [beq_eq_false_iff_ne]; omega
      have g5 : (k : Int) + 1 < (s.size : Int) := by omega
      have hh : ((L s).drop (k + 1)).head? = some s[k + 1] := by rw [L_drop s (k + 1) hl]; rfl
      by_cases hn : s[k + 1].toNat = 39
      case neg =>
        have g6 := bneNB s[k + 1] 39 (by omega)
        have HF : Hid (u = ([], 3)) := by
          unfold Hid
          rw [HY.out, HQ.out, if_pos h39, hh, if_neg (fun h => hn (by rw [Option.some.inj h]; rfl)), fin_of rfl]
          unfold unqF
          rw [if_neg (by simp), if_pos (by simpa using hl)]
        clear h39 HY HQ hh hn
        go_wp2_with fail
        go_ret2
        exact ⟨ret2_str HF.out, HBW.out⟩
      have g6 := bneB s[k + 1] 39 (by omega)
      have hd : dec ((L s).drop k) = (39, 1) := by
        rw [L_drop s k hlt, dec_ascii _ _ (by omega), h39]
      rw [hd] at HDE
      have hex : L (s.extract k (k + 1)) = [39] := by
        rw [L_extract, Nat.add_sub_cancel_left, L_drop s k hlt, List.take_succ_cons, List.take_zero, UInt8.toNat_inj.1 (show s[k].toNat = (39 : UInt8).toNat from h39)]
      have HN : Hid (u = unqF s.size (quotFin (L (o ++ s.extract k (k + 1))) (k + 2) (singL ((L s).drop (k + 2))))) := by
        unfold Hid
        rw [HY.out, HQ.out, if_pos h39, hh, if_pos (by rw [UInt8.toNat_inj.1 (show s[k + 1].toNat = (39 : UInt8).toNat from hn)]), quotFin_fin, List.drop_drop, L_append, hex]
      have HZ : Hid ((o ++ s.extract k (k + 1)).size ≤ k + 2) := by
        unfold Hid
        rw [← L_len, L_append, hex, List.length_append, L_len]
        simp only [List.length_cons, List.length_nil]
        omega
      clear h39 HY HQ hh hn hd hex
      go_wp2_with (go_at_call 62; refine (HDE.out _).mono ?_; rintro e w2 ⟨rfl, hb2⟩; have HB2 := Lib.hid (HBW.out.trans (hb2.mono HBW.out.size)); clear hb2)
      exact ⟨⟨k + 2, o ++ s.extract k (k + 1), rfl, by go_num, by omega, by omega, HZ.out, HN.out, HB2.out⟩, by simp [intOf]; omega⟩
    case neg =>
      have g3 := beqNB s[k] 39 (by omega)
      have HE : Hid (u = unqF s.size (quotFin (L o) k (if s[k].toNat < 32 ∨ (dec ((L s).drop k)).2 = 0 then ([], 0, 5) else quotFin (((L s).drop k).take (dec ((L s).drop k)).2) (dec ((L s).drop k)).2 (singL (((L s).drop k).drop (dec ((L s).drop k)).2))))) := by
        unfold Hid; rw [HY.out, HQ.out, if_neg h39]
      have hle := dec_le ((L s).drop k)
      rw [List.length_drop, L_len] at hle
      have hlow : (dec ((L s).drop k)).2 ≠ 0 → ((dec ((L s).drop k)).1 < 32 ↔ s[k].toNat < 32) ∧ (dec ((L s).drop k)).1 ≠ 39 := by
        intro h0
        rw [L_drop s k hlt] at h0 ⊢
        by_cases hb : s[k].toNat < 128
        · rw [dec_ascii _ _ hb]
          exact ⟨Iff.rfl, h39⟩
        · have hn1 : (dec (s[k] :: (L s).drop (k + 1))).2 ≠ 1 := fun h1 => hb (dec_one _ _ h1)
          rcases dec_cases (s[k] :: (L s).drop (k + 1)) with h | ⟨r, n, hd, hsc, hw, -, -, -, -⟩
          · rw [h] at h0; exact absurd rfl h0
          · rw [hd] at hn1 ⊢
            have hr : ¬ r < 128 := by
              intro hlt
              apply hn1
              dsimp only
              rw [← hw]
              unfold wid
              rw [if_pos hlt]
            dsimp only
            exact ⟨⟨fun h => by omega, fun h => by omega⟩, by omega⟩
      clear HY HQ h39
      generalize hdd : dec ((L s).drop k) = rn at *
      have HDD := Lib.hid hdd; clear hdd
      obtain ⟨rr, n⟩ := rn
      dsimp only at HE hle hlow HDE
      by_cases h0 : n = 0
      · have HF : Hid (u = ([], 5)) := by unfold Hid; rw [HE.out, if_pos (.inr h0)]; rfl
        have hz : ((n : Int) == 0) = true := by rw [beq_iff_eq]; omega
        clear HE hlow h0
        go_wp2_with (go_at_call 62; refine (HDE.out _).mono ?_; rintro e w2 ⟨rfl, hb2⟩; have HB2 := Lib.hid (HBW.out.trans (hb2.mono HBW.out.size)); clear hb2)
        go_ret2
        exact ⟨ret2_str HF.out, HB2.out⟩
      have hz : ((n : Int) == 0) = false := by rw [beq_eq_false_iff_ne]; omega
      obtain ⟨hl, h9⟩ := hlow h0
      by_cases h32 : s[k].toNat < 32
      · have HF : Hid (u = ([], 5)) := by unfold Hid; rw [HE.out, if_pos (.inl h32)]; rfl
        have g32 : (rr : Int) < 32 := by have := hl.2 h32; omega
        clear HE hlow h0 hl h32 h9
        go_wp2_with (go_at_call 62; refine (HDE.out _).mono ?_; rintro e w2 ⟨rfl, hb2⟩; have HB2 := Lib.hid (HBW.out.trans (hb2.mono HBW.out.size)); clear hb2)
        go_ret2
        exact ⟨ret2_str HF.out, HB2.out⟩
      · have g32 : ¬ (rr : Int) < 32 := fun h => h32 (hl.1 (by omega))
        have g39 : ((rr : Int) == 39) = false := by rw [beq_eq_false_iff_ne]; omega
        have hn1 : 1 ≤ n := by omega
        have he : L (s.extract k (k + n)) = ((L s).drop k).take n := by rw [L_extract, Nat.add_sub_cancel_left]
        have HF : Hid (u = unqF s.size (quotFin (L (o ++ s.extract k (k + n))) (k + n) (singL ((L s).drop (k + n))))) := by
          unfold Hid; rw [HE.out, if_neg (by omega), quotFin_fin, List.drop_drop, L_append, he]
        have HZ : Hid ((o ++ s.extract k (k + n)).size ≤ k + n) := by
          unfold Hid
          rw [← L_len, L_append, he, List.length_append, L_len, List.length_take, List.length_drop, L_len]
          omega
        clear HE hlow h0 hl h32 h9 he
        go_wp2_with (go_at_call 62; refine (HDE.out _).mono ?_; rintro e w2 ⟨rfl, hb2⟩; have HB2 := Lib.hid (HBW.out.trans (hb2.mono HBW.out.size)); clear hb2)
        exact ⟨⟨k + n, o ++ s.extract k (k + n), rfl, by go_num, by omega, by omega, HZ.out, HF.out, HB2.out⟩, by simp [intOf]; omega⟩
end Go.Proofs.YtgddhkanfcpipaaGreatDoor

namespace Go.Proofs.YtgddhkanfcpipaaGreatDoor
open Go.RowKit
set_option maxHeartbeats 2000000
set_option maxRecDepth 100000

theorem keyQ_at (s : ByteArray) (hp : 0 < s.size) : keyR (L s) =
    if s[0].toNat = 39 ∨ s[0].toNat = 34 then
      (if partW s[0] ((L s).drop 1) = 0 then noK else if endH ((L s).drop (1 + partW s[0] ((L s).drop 1))) = false then noK
       else if (unqR ((L s).take (1 + partW s[0] ((L s).drop 1)))).2 ≠ 0 then noK else longK (unqR ((L s).take (1 + partW s[0] ((L s).drop 1)))).1 (1 + partW s[0] ((L s).drop 1)))
    else if endH ((L s).drop (keyN (L s))) = false then noK else if plainB ((L s).take (keyN (L s))) = false then noK else longK ((L s).take (keyN (L s))) (keyN (L s)) := by
  have h := L_drop s 0 hp
  rw [List.drop_zero, Nat.zero_add] at h
  rw [← keyQ_same]
  conv => lhs; rw [h]
  rw [keyQ, ← h]
theorem longPost {k : ByteArray} {x : List UInt8} {n : Nat} {y : List UInt8 × Nat × Nat} (h : y = longK x n) (hk : L k = x) : Ending.returned (.tuple #[.string ⟨(longK (L k) n).1.toArray⟩, .int .i64 (longK (L k) n).2.1, .int .i64 (longK (L k) n).2.2]) = Ending.returned (.tuple #[.string ⟨y.1.toArray⟩, .int .i64 y.2.1, .int .i64 y.2.2]) := by rw [h, hk]
theorem KeyR_any (s : ByteArray) (w : World) (hs : s.size ≤ 1000000000) :
    Calls Tryz.prog 18 #[.string s] w fun e w' => e = .returned (.tuple #[.string ⟨(keyR (L s)).1.toArray⟩, .int .i64 (keyR (L s)).2.1, .int .i64 (keyR (L s)).2.2]) ∧ Below w.heap.size w w' := by
  have hm : s.size ≤ maxLen := by simp only [maxLen]; omega
  by_cases he : L s = []
  · have he1 : s.toList.isEmpty = true := by rw [empty_L]; simpa using he
    have HF : Hid (keyR (L s) = ([], 0, 7)) := by unfold Hid; rw [he]; rfl
    clear he
    go_enter Tryz.func18, Tryz.ntmps18
    go_wp2_with fail
    go_ret3
    exact ⟨ret3_str HF.out, Below.refl _ _⟩
  have he1 : s.toList.isEmpty = false := by rw [empty_L]; simpa using he
  have hp := size_pos he
  have hX := keyQ_at s hp
  generalize hkr : keyR (L s) = kr at *
  clear he hkr
  have HEN := Lib.hid (fun n w' hn => ends3_any s n w' hs hn)
  by_cases hq : s[0].toNat = 39 ∨ s[0].toNat = 34
  case pos =>
    rw [if_pos hq] at hX
    have HPA := Lib.hid (fun w' => Partner3_any s 0 w' (by omega) hp)
    have hple := partW_len s[0] ((L s).drop 1)
    rw [List.length_drop, L_len] at hple
    rw [Nat.zero_add] at HPA
    have HUQ := Lib.hid (fun n w' (h : n ≤ s.size) => UnquoteR_any (s.extract 0 n) w' (by rw [ByteArray.size_extract]; omega))
    generalize partW s[0] ((L s).drop 1) = pw at *
    by_cases h0 : pw = 0
    case pos =>
      have hpi : parI 1 pw = -1 := by rw [h0]; rfl
      rw [hpi] at HPA
      have HF : Hid (kr = ([], 0, 7)) := by unfold Hid; rw [hX, if_pos h0]; rfl
      clear hX h0 hpi HUQ HEN
      by_cases h39 : s[0].toNat = 39
      all_goals
        first
          | have g1 := beqB s[0] 39 (by omega)
          | have g1 := beqNB s[0] 39 (by omega)
            have g2 := beqB s[0] 34 (by omega)
        clear h39 hq
        go_enter Tryz.func18, Tryz.ntmps18
        go_wp2_with (go_at_call 56; refine (HPA.out _).mono ?_; rintro e w1 ⟨rfl, hb1⟩; have HB1 := Lib.hid hb1; clear hb1)
        go_ret3
        exact ⟨ret3_str HF.out, HB1.out⟩
    have hpi : parI 1 pw = ((1 + pw : Nat) : Int) := by
      unfold parI
      rw [if_neg h0]
    rw [hpi] at HPA
    rw [if_neg h0] at hX
    obtain ⟨n, hn⟩ : ∃ n, n = 1 + pw := ⟨_, rfl⟩
    rw [← hn] at hX HPA
    have hns : n ≤ s.size := by omega
    clear hpi h0 hn hple
    have HEQ := Lib.hid (fun w' => HEN.out n w' hns)
    have HUN := Lib.hid (fun w' => HUQ.out n w' hns)
    rw [L_upto] at HUN
    clear HEN HUQ
    cases hen : endH ((L s).drop n)
    case false =>
      rw [hen] at HEQ hX
      have HF : Hid (kr = ([], 0, 7)) := by unfold Hid; rw [hX]; rfl
      clear hX hen HUN
      by_cases h39 : s[0].toNat = 39
      all_goals
        first
          | have g1 := beqB s[0] 39 (by omega)
          | have g1 := beqNB s[0] 39 (by omega)
            have g2 := beqB s[0] 34 (by omega)
        clear h39 hq
        go_enter Tryz.func18, Tryz.ntmps18
        go_wp2_with (first
          | (go_at_call 56; refine (HPA.out _).mono ?_; rintro e w1 ⟨rfl, hb1⟩; have HB1 := Lib.hid hb1; clear hb1)
          | (go_at_call 57; refine (HEQ.out _).mono ?_; rintro e w' ⟨rfl, rfl⟩))
        go_ret3
        exact ⟨ret3_str HF.out, HB1.out⟩
    rw [hen] at HEQ hX
    rw [if_neg (by simp)] at hX
    have HUL : Hid ((unqR ((L s).take n)).1.length ≤ 100000000000) := by
      unfold Hid
      have h1 := unqR_len ((L s).take n)
      rw [List.length_take, L_len] at h1
      omega
    generalize unqR ((L s).take n) = ur at *
    obtain ⟨x, er⟩ := ur
    dsimp only at hX HUN HUL
    by_cases h1 : er = 0
    case neg =>
      have g3 : ((er : Int) != 0) = true := by rw [bne_iff_ne]; omega
      have HF : Hid (kr = ([], 0, 7)) := by unfold Hid; rw [hX, if_pos h1]; rfl
      clear hX hen h1
      by_cases h39 : s[0].toNat = 39
      all_goals
        first
          | have g1 := beqB s[0] 39 (by omega)
          | have g1 := beqNB s[0] 39 (by omega)
            have g2 := beqB s[0] 34 (by omega)
        clear h39 hq
        go_enter Tryz.func18, Tryz.ntmps18
        go_wp2_with (first
          | (go_at_call 56; refine (HPA.out _).mono ?_; rintro e w1 ⟨rfl, hb1⟩; have HB1 := Lib.hid hb1; clear hb1)
          | (go_at_call 57; refine (HEQ.out _).mono ?_; rintro e w' ⟨rfl, rfl⟩)
          | (go_at_call 22; refine (HUN.out _).mono ?_; rintro e w2 ⟨rfl, hb2⟩; have HB2 := Lib.hid (HB1.out.trans (hb2.mono HB1.out.size)); clear hb2))
        go_ret3
        exact ⟨ret3_str HF.out, HB2.out⟩
    subst h1
    rw [if_neg (by simp)] at hX
    have HF : Hid (kr = longK x n) := hX
    obtain ⟨xb, hxb⟩ : ∃ xb : ByteArray, (⟨x.toArray⟩ : ByteArray) = xb := ⟨_, rfl⟩
    have hxl : L xb = x := by rw [← hxb, L_mk]
    have HLO := Lib.hid (fun w' => long_any xb n w' (by rw [← L_len, hxl]; exact HUL.out))
    rw [hxb] at HUN
    have HXL := Lib.hid hxl
    clear hX hen hxb hxl HUL
    by_cases h39 : s[0].toNat = 39
    all_goals
      first
        | have g1 := beqB s[0] 39 (by omega)
        | have g1 := beqNB s[0] 39 (by omega)
          have g2 := beqB s[0] 34 (by omega)
      clear h39 hq
      go_enter Tryz.func18, Tryz.ntmps18
      go_wp2_with (first
        | (go_at_call 56; refine (HPA.out _).mono ?_; rintro e w1 ⟨rfl, hb1⟩; have HB1 := Lib.hid hb1; clear hb1)
        | (go_at_call 57; refine (HEQ.out _).mono ?_; rintro e w' ⟨rfl, rfl⟩)
        | (go_at_call 22; refine (HUN.out _).mono ?_; rintro e w2 ⟨rfl, hb2⟩; have HB2 := Lib.hid (HB1.out.trans (hb2.mono HB1.out.size)); clear hb2)
        | (go_at_call 58; refine (HLO.out _).mono ?_; rintro e w' ⟨rfl, rfl⟩))
      go_ret3
      exact ⟨longPost HF.out HXL.out, HB2.out⟩
  have g1 := beqNB s[0] 39 (by omega)
  have g2 := beqNB s[0] 34 (by omega)
  rw [if_neg hq] at hX
  have hkl := keyN_le (L s)
  rw [L_len] at hkl
  obtain ⟨n, hn⟩ : ∃ n, n = keyN (L s) := ⟨_, rfl⟩
  rw [← hn] at hX hkl
  have HK0 : Hid (n = 0 + keyN ((L s).drop 0)) := by unfold Hid; rw [List.drop_zero, Nat.zero_add]; exact hn
  clear hn hq
  go_enter Tryz.func18, Tryz.ntmps18
  go_wp2_with fail
  go_loopw [9] (fun iv wr => ∃ k : Nat, iv = .int .i64 (k : Int) ∧ k ≤ s.size ∧ Hid (n = k + keyN ((L s).drop k)) ∧ w = wr) (fun iv _ => s.size - (intOf iv).toNat)
  case atStart => exact ⟨0, rfl, Nat.zero_le _, HK0.out, rfl⟩
  case round =>
    clear HK0
    obtain ⟨k, rfl, hks, HK, rfl⟩ := hrel
    have hk0 : (0 : Int) ≤ (k : Int) := by omega
    by_cases hlt : k < s.size
    case neg =>
      have hnk : n = k := by rw [HK.out, L_drop_nil s k (by omega)]; rfl
      have HF : Hid (kr = ([], 0, 7)) := by unfold Hid; rw [hX, hnk, L_drop_nil s k (by omega)]; rfl
      clear hX HK hnk
      go_wp2_with fail
      go_ret3
      exact ⟨ret3_str HF.out, Below.refl _ _⟩
    have HEQ := Lib.hid (fun w' => HEN.out k w' hks)
    have hst := HK.out
    rw [keyN_at s k hlt] at hst
    cases hen : endH ((L s).drop k)
    case false =>
      rw [hen] at HEQ hst
      have HN : Hid (n = (k + 1) + keyN ((L s).drop (k + 1))) := by
        unfold Hid
        rw [hst, if_neg (by simp)]
        omega
      clear HK hen hX hst
      go_wp2_with (go_at_call 57; refine (HEQ.out _).mono ?_; rintro e w' ⟨rfl, rfl⟩)
      exact ⟨⟨k + 1, by go_num, by omega, HN.out, trivial⟩, by simp [intOf]; omega⟩
    rw [hen] at HEQ hst
    rw [if_pos rfl, Nat.add_zero] at hst
    subst hst
    rw [hen, if_neg (by simp)] at hX
    have hxL : L (s.extract 0 n) = (L s).take n := L_upto s n
    have hxz : (s.extract 0 n).size = n := by rw [ByteArray.size_extract]; omega
    have HIP := Lib.hid (fun w' => IsPlain_any (s.extract 0 n) w' (by omega))
    have HLO := Lib.hid (fun w' => long_any (s.extract 0 n) n w' (by omega))
    rw [hxL] at HIP
    clear HK HEN hen
    cases hpl : plainB ((L s).take n)
    case false =>
      rw [hpl] at HIP hX
      have HF : Hid (kr = ([], 0, 7)) := by unfold Hid; rw [hX]; rfl
      clear hX hpl hxL hxz
      go_wp2_with (first
        | (go_at_call 57; refine (HEQ.out _).mono ?_; rintro e w' ⟨rfl, rfl⟩)
        | (go_at_call 51; refine (HIP.out _).mono ?_; rintro e w1 ⟨rfl, hb1⟩; have HB1 := Lib.hid hb1; clear hb1))
      go_ret3
      exact ⟨ret3_str HF.out, HB1.out⟩
    rw [hpl] at HIP hX
    rw [if_neg (by simp)] at hX
    have HF := Lib.hid hX
    have HXL := Lib.hid hxL
    clear hX hpl hxL hxz
    go_wp2_with (first
      | (go_at_call 57; refine (HEQ.out _).mono ?_; rintro e w' ⟨rfl, rfl⟩)
      | (go_at_call 51; refine (HIP.out _).mono ?_; rintro e w1 ⟨rfl, hb1⟩; have HB1 := Lib.hid hb1; clear hb1)
      | (go_at_call 58; refine (HLO.out _).mono ?_; rintro e w' ⟨rfl, rfl⟩))
    go_ret3
    exact ⟨longPost HF.out HXL.out, HB1.out⟩
end Go.Proofs.YtgddhkanfcpipaaGreatDoor
