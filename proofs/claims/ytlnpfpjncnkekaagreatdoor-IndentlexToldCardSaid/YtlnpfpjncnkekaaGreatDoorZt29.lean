/- datakitref21.Key walked. Conditions: strings of at most 10^9 bytes. -/
import Derived.Test.YtlnpfpjncnkekaaGreatDoorZt28
import Derived.Test.YtlnpfpjncnkekaaGreatDoorZt4
import Derived.Test.YtlnpfpjncnkekaaGreatDoorZt14
import Derived.Test.YtlnpfpjncnkekaaGreatDoorZt7
import Derived.Test.YtlnpfpjncnkekaaGreatDoorZt8
import Derived.Test.YtlnpfpjncnkekaaGreatDoorZt9
namespace Go.Proofs.YtlnpfpjncnkekaaGreatDoor
open Go.RowKit
set_option maxHeartbeats 4000000
set_option maxRecDepth 100000

/-- What the library reads: its tables, and a number. -/
structure EnvI (w : World) : Prop where
  tab : TabU w
  ml : ∃ m, w.cell? ⟨2, 0, none⟩ = some (.int .i64 m)
theorem EnvI.below {w w' : World} (h : EnvI w) (hb : Below w.heap.size w w') : EnvI w' := by
  refine ⟨h.tab.below hb, ?_⟩
  obtain ⟨m, hm⟩ := h.ml
  refine ⟨m, ?_⟩
  rw [hb.cell (p := ⟨2, 0, none⟩)]
  · exact hm
  · rcases Nat.lt_or_ge 2 w.heap.size with h1 | h1
    · exact h1
    · simp [World.cell?, Array.getElem?_eq_none h1] at hm
theorem ret_b {a b : Bool} (h : a = b) : Ending.returned (.bool a) = Ending.returned (.bool b) := by rw [h]
theorem endH_at (s : ByteArray) (i : Nat) (h : i < s.size) : endH ((L s).drop i) = decide (s[i].toNat = 58 ∧ (i + 1 = s.size ∨ ∃ h1 : i + 1 < s.size, s[i + 1].toNat = 32)) := by
  rw [L_drop s i h, endH]
  by_cases h1 : i + 1 < s.size
  · rw [L_drop s (i + 1) h1, List.head?_cons]
    rw [decide_eq_decide]
    refine and_congr Iff.rfl ⟨?_, ?_⟩
    · rintro (h2 | h2)
      · cases h2
      · exact .inr ⟨h1, by rw [Option.some.inj h2]; rfl⟩
    · rintro (h2 | ⟨_, h2⟩)
      · omega
      · exact .inr (by rw [UInt8.toNat_inj.1 (show s[i + 1].toNat = (32 : UInt8).toNat from h2)])
  · rw [L_drop_nil s (i + 1) (by omega)]
    rw [decide_eq_decide]
    refine and_congr Iff.rfl ⟨fun _ => .inl (by omega), fun _ => .inl rfl⟩
theorem ends_any (s : ByteArray) (i : Nat) (w : World) (hs : s.size ≤ 1000000000) (hi : i ≤ s.size) :
    Calls Tryz.prog 41 #[.string s, .int .i64 i] w fun e w' => e = .returned (.bool (endH ((L s).drop i))) ∧ w = w' := by
  have hm : s.size ≤ maxLen := by simp only [maxLen]; omega
  by_cases hlt : i < s.size
  case neg =>
    have HF : Hid (endH ((L s).drop i) = false) := by unfold Hid; rw [L_drop_nil s i (by omega)]; rfl
    go_enter Tryz.func41, Tryz.ntmps41
    go_wp2_with fail
    go_ret
    exact ⟨ret_b HF.out.symm, rfl⟩
  have hE := endH_at s i hlt
  by_cases h58 : s[i].toNat = 58
  case neg =>
    have g := beqNB s[i] 58 (by omega)
    have HF : Hid (endH ((L s).drop i) = false) := by unfold Hid; rw [hE]; exact decide_eq_false (fun h => h58 h.1)
    clear hE h58
    go_enter Tryz.func41, Tryz.ntmps41
    go_wp2_with fail
    go_ret
    exact ⟨ret_b HF.out.symm, rfl⟩
  have g := beqB s[i] 58 (by omega)
  by_cases h1 : i + 1 < s.size
  case neg =>
    have g1 : ((i : Int) + 1 == (s.size : Int)) = true := by rw [beq_iff_eq]; omega
    have HF : Hid (endH ((L s).drop i) = true) := by unfold Hid; rw [hE]; exact decide_eq_true ⟨h58, .inl (by omega)⟩
    clear hE h58 h1
    go_enter Tryz.func41, Tryz.ntmps41
    go_wp2_with fail
    go_ret
    exact ⟨ret_b HF.out.symm, rfl⟩
  have g1 : ((i : Int) + 1 == (s.size : Int)) = false := by rw [beq_eq_false_iff_ne]; omega
  by_cases h32 : s[i + 1].toNat = 32
  · have g2 := beqB s[i + 1] 32 (by omega)
    have HF : Hid (endH ((L s).drop i) = true) := by unfold Hid; rw [hE]; exact decide_eq_true ⟨h58, .inr ⟨h1, h32⟩⟩
    clear hE h58 h32
    go_enter Tryz.func41, Tryz.ntmps41
    go_wp2_with fail
    go_ret
    exact ⟨ret_b HF.out.symm, rfl⟩
  · have g2 := beqNB s[i + 1] 32 (by omega)
    have HF : Hid (endH ((L s).drop i) = false) := by unfold Hid; rw [hE]; exact decide_eq_false (by rintro ⟨-, h | ⟨_, h⟩⟩ <;> omega)
    clear hE h58 h32
    go_enter Tryz.func41, Tryz.ntmps41
    go_wp2_with fail
    go_ret
    exact ⟨ret_b HF.out.symm, rfl⟩
theorem below32_any (r : Nat) (w : World) : Calls Tryz.prog 68 #[.int .i32 (r : Int)] w fun e w' => e = .returned (.bool (decide (r < 32))) ∧ Below w.heap.size w w' := by
  by_cases h : r < 32
  · have h1 : (r : Int) < 32 := by omega
    have HF : Hid (decide (r < 32) = true) := decide_eq_true h
    clear h
    go_enter Tryz.func68, Tryz.ntmps68
    go_wp2_with fail
    go_ret
    exact ⟨ret_b HF.out.symm, Below.refl _ _⟩
  · have h1 : ¬ (r : Int) < 32 := by omega
    have HF : Hid (decide (r < 32) = false) := decide_eq_false h
    clear h
    go_enter Tryz.func68, Tryz.ntmps68
    go_wp2_with fail
    go_ret
    exact ⟨ret_b HF.out.symm, Below.refl _ _⟩
theorem control_any (s : ByteArray) (w : World) :
    Calls Tryz.prog 27 #[.string s] w fun e w' => e = .returned (.bool (ctlB (L s))) ∧ Below w.heap.size w w' := by
  have HI := Lib.hid (Tryz.strings_IndexFunc_grows 68 #[] (fun _ _ => rfl) (fun r => decide (r < 32)) s w (fun W x _ _ => below32_any x W))
  have hc := ctl_idx s
  generalize Lib.idxFunc (fun r => decide (r < 32)) true s = ix at *
  cases hct : ctlB (L s)
  · rw [hct] at hc
    have h : ¬ (0 : Int) ≤ ix := of_decide_eq_false hc
    clear hct hc
    go_enter Tryz.func27, Tryz.ntmps27
    go_wp2_with (go_at_call 67; refine HI.out.mono ?_; rintro e w' ⟨rfl, hb⟩)
    go_ret
    exact ⟨ret_b (decide_eq_false (by omega)), hb⟩
  · rw [hct] at hc
    have h : (0 : Int) ≤ ix := of_decide_eq_true hc
    clear hct hc
    go_enter Tryz.func27, Tryz.ntmps27
    go_wp2_with (go_at_call 67; refine HI.out.mono ?_; rintro e w' ⟨rfl, hb⟩)
    go_ret
    exact ⟨rfl, hb⟩
end Go.Proofs.YtlnpfpjncnkekaaGreatDoor

namespace Go.Proofs.YtlnpfpjncnkekaaGreatDoor
open Go.RowKit
set_option maxHeartbeats 4000000
set_option maxRecDepth 100000

theorem hasP_pre (l p : List UInt8) : Lib.hasPrefix l p = pre l p := by
  unfold Lib.hasPrefix pre
  rw [Bool.eq_iff_iff, beq_iff_eq, List.isPrefixOf_iff_prefix, List.prefix_iff_eq_take]
  exact eq_comm
theorem dashed_any (s : ByteArray) (w : World) :
    Calls Tryz.prog 78 #[.string s] w fun e w' => e = .returned (.bool (dashB (L s))) ∧ w = w' := by
  have HP := Lib.hid (fun w' => (Tryz.strings_HasPrefix s ⟨#[45, 32]⟩ w').mono fun e w2 h => (⟨h.1, h.2.symm⟩ : _ ∧ w' = w2))
  have e1 : Lib.hasPrefix s.data.toList (⟨#[45, 32]⟩ : ByteArray).data.toList = pre (L s) [45, 32] := hasP_pre _ _
  rw [e1] at HP
  have HD : Hid (dashB (L s) = (decide (L s = [45]) || pre (L s) [45, 32])) := rfl
  generalize pre (L s) [45, 32] = p at *
  clear e1
  by_cases h : L s = [45]
  · have h1 : s = ⟨#[45]⟩ := L_inj h
    have HF : Hid (dashB (L s) = true) := by unfold Hid; rw [HD.out, decide_eq_true h]; rfl
    subst h1
    clear HD h
    go_enter Tryz.func78, Tryz.ntmps78
    go_wp2_with fail
    go_ret
    exact ⟨ret_b HF.out.symm, rfl⟩
  · have h1 : (s.toList == [45]) = false := by rw [toList_L]; exact beq_false h
    have HF : Hid (dashB (L s) = p) := by unfold Hid; rw [HD.out, decide_eq_false h]; rfl
    clear HD h
    cases p
    all_goals
      go_enter Tryz.func78, Tryz.ntmps78
      go_wp2_with (go_at_call 32; refine (HP.out _).mono ?_; rintro e w' ⟨rfl, rfl⟩)
      go_ret
      exact ⟨ret_b HF.out.symm, rfl⟩
theorem plainB_eq (s : ByteArray) (hp : 0 < s.size) (hq : s.size - 1 < s.size) : plainB (L s) =
    (validL (L s) && !ctlB (L s) && !(firstX.contains s[0]) && !dashB (L s) && !(decide (s[0].toNat = 32)) && !(decide (s[s.size - 1].toNat = 32)) && !two 58 32 (L s) && !two 32 35 (L s) && !(decide (s[s.size - 1].toNat = 58))) := by
  have hne : L s ≠ [] := by
    intro h
    have := congrArg List.length h
    rw [L_len, List.length_nil] at this
    omega
  have h0 : (L s).head? = some s[0] := by rw [List.head?_eq_getElem?, List.getElem?_eq_getElem (by rw [L_len]; exact hp)]; rfl
  have h1 : (L s).headD 0 = s[0] := by rw [List.headD_eq_head?_getD, h0]; rfl
  have h2 : (L s).getLast? = some s[s.size - 1] := by
    rw [List.getLast?_eq_getElem?, List.getElem?_eq_getElem (by rw [L_len]; exact hq)]
    simp only [L_len]
    rfl
  have key : ∀ (b c : UInt8), decide (some b = some c) = decide (b.toNat = c.toNat) := by
    intro b c
    rw [decide_eq_decide, Option.some.injEq, UInt8.toNat_inj]
  unfold plainB
  rw [decide_eq_true hne, h0, h1, h2, key, key, key, Bool.true_and]
  rfl
theorem IndexF_any (b : UInt8) (w : World) : Calls Tryz.prog 77 #[.string ⟨#[91, 93, 123, 125, 44, 35, 38, 42, 33, 124, 62, 39, 34, 37, 64, 96]⟩, .int .u8 (b.toNat : Int)] w fun e w' => e = .returned (.int .i64 (Lib.indexByte firstX b)) ∧ w = w' := by
  have h := Tryz.strings_IndexByte ⟨#[91, 93, 123, 125, 44, 35, 38, 42, 33, 124, 62, 39, 34, 37, 64, 96]⟩ (b.toNat : Int) w
  have hb : ((b.toNat : Int)).toNat.toUInt8 = b := by
    rw [Int.toNat_natCast]
    exact UInt8.ofNat_toNat
  rw [hb] at h
  exact h.mono fun _ _ h => ⟨h.1, h.2.symm⟩
theorem Contains2_any (s : ByteArray) (a b : UInt8) (w : World) (hs : s.size ≤ 1000000000) (hE : EnvI w) :
    Calls Tryz.prog 79 #[.string s, .string ⟨#[a, b]⟩] w fun e w' => e = .returned (.bool (two a b (L s))) ∧ w = w' := by
  obtain ⟨m, hm⟩ := hE.ml
  have h := Tryz.strings_Contains s ⟨#[a, b]⟩ m w (by omega) hm
  refine h.mono fun _ _ h => ⟨?_, h.2.symm⟩
  rw [h.1]
  exact ret_b (two_has a b (L s))
theorem loose_any (s : ByteArray) (w : World) (hs : s.size ≤ 1000000000) (hE : EnvI w) :
    Calls Tryz.prog 34 #[.string s] w fun e w' => e = .returned (.bool (plainB (L s))) ∧ Below w.heap.size w w' := by
  have HE := Lib.hid hE
  clear hE
  by_cases he : L s = []
  · have he1 : s.toList.isEmpty = true := by rw [empty_L]; simpa using he
    have HF : Hid (plainB (L s) = false) := by unfold Hid; rw [he]; rfl
    clear he
    go_enter Tryz.func34, Tryz.ntmps34
    go_wp2_with fail
    go_ret
    exact ⟨ret_b HF.out.symm, Below.refl _ _⟩
  have he1 : s.toList.isEmpty = false := by rw [empty_L]; simpa using he
  have hp := size_pos he
  have hq : s.size - 1 < s.size := by omega
  have hkp : 1 ≤ (s.size : Int) := by omega
  have hkl : (s.size : Int) - 1 < (s.size : Int) := by omega
  have HF := Lib.hid (plainB_eq s hp hq)
  have HV := Lib.hid (fun w' => Valid_any s w' (by omega))
  have HC := Lib.hid (fun w' => control_any s w')
  have HX := Lib.hid (fun w' => IndexF_any s[0] w')
  have HXF := Lib.hid (firstX_idx s[0])
  have HD := Lib.hid (fun w' => dashed_any s w')
  have HT1 := Lib.hid (fun w' hE => Contains2_any s 58 32 w' hs hE)
  have HT2 := Lib.hid (fun w' hE => Contains2_any s 32 35 w' hs hE)
  generalize validL (L s) = v at *
  generalize ctlB (L s) = c at *
  generalize dashB (L s) = d at *
  generalize two 58 32 (L s) = t1 at *
  generalize two 32 35 (L s) = t2 at *
  generalize Lib.indexByte firstX s[0] = ix at *
  generalize hx : firstX.contains s[0] = x at *
  clear he hx
  obtain ⟨f, hf⟩ : ∃ f, f = decide (s[0].toNat = 32) := ⟨_, rfl⟩
  obtain ⟨l, hl⟩ : ∃ l, l = decide (s[s.size - 1].toNat = 32) := ⟨_, rfl⟩
  obtain ⟨z, hz⟩ : ∃ z, z = decide (s[s.size - 1].toNat = 58) := ⟨_, rfl⟩
  rw [← hf, ← hl, ← hz] at HF
  have HFF := Lib.hid hf
  have HLL := Lib.hid hl
  have HZZ := Lib.hid hz
  clear hf hl hz
  cases v
  case false =>
    clear HFF HLL HZZ HXF
    go_enter Tryz.func34, Tryz.ntmps34
    go_wp2_with (first
        | (go_at_call 26; refine (HV.out _).mono ?_; rintro e w' ⟨rfl, rfl⟩)
        | (go_at_call 27; refine (HC.out _).mono ?_; rintro e w1 ⟨rfl, hb1⟩; have HB1 := Lib.hid hb1; have HE1 := Lib.hid (HE.out.below hb1); clear hb1)
        | (go_at_call 77; refine (HX.out _).mono ?_; rintro e w' ⟨rfl, rfl⟩)
        | (go_at_call 78; refine (HD.out _).mono ?_; rintro e w' ⟨rfl, rfl⟩)
        | (go_at_call 79; refine (HT1.out _ HE1.out).mono ?_; rintro e w' ⟨rfl, rfl⟩)
        | (go_at_call 79; refine (HT2.out _ HE1.out).mono ?_; rintro e w' ⟨rfl, rfl⟩))
    go_ret
    exact ⟨ret_b (by rw [HF.out]; try rfl), by first | exact HB1.out | exact Below.refl _ _⟩
  cases c
  case true =>
    clear HFF HLL HZZ HXF
    go_enter Tryz.func34, Tryz.ntmps34
    go_wp2_with (first
        | (go_at_call 26; refine (HV.out _).mono ?_; rintro e w' ⟨rfl, rfl⟩)
        | (go_at_call 27; refine (HC.out _).mono ?_; rintro e w1 ⟨rfl, hb1⟩; have HB1 := Lib.hid hb1; have HE1 := Lib.hid (HE.out.below hb1); clear hb1)
        | (go_at_call 77; refine (HX.out _).mono ?_; rintro e w' ⟨rfl, rfl⟩)
        | (go_at_call 78; refine (HD.out _).mono ?_; rintro e w' ⟨rfl, rfl⟩)
        | (go_at_call 79; refine (HT1.out _ HE1.out).mono ?_; rintro e w' ⟨rfl, rfl⟩)
        | (go_at_call 79; refine (HT2.out _ HE1.out).mono ?_; rintro e w' ⟨rfl, rfl⟩))
    go_ret
    exact ⟨ret_b (by rw [HF.out]; try rfl), by first | exact HB1.out | exact Below.refl _ _⟩
  cases x
  case true =>
    have gx : ¬ ix < 0 := by have := of_decide_eq_true HXF.out; omega
    clear HFF HLL HZZ HXF
    go_enter Tryz.func34, Tryz.ntmps34
    go_wp2_with (first
        | (go_at_call 26; refine (HV.out _).mono ?_; rintro e w' ⟨rfl, rfl⟩)
        | (go_at_call 27; refine (HC.out _).mono ?_; rintro e w1 ⟨rfl, hb1⟩; have HB1 := Lib.hid hb1; have HE1 := Lib.hid (HE.out.below hb1); clear hb1)
        | (go_at_call 77; refine (HX.out _).mono ?_; rintro e w' ⟨rfl, rfl⟩)
        | (go_at_call 78; refine (HD.out _).mono ?_; rintro e w' ⟨rfl, rfl⟩)
        | (go_at_call 79; refine (HT1.out _ HE1.out).mono ?_; rintro e w' ⟨rfl, rfl⟩)
        | (go_at_call 79; refine (HT2.out _ HE1.out).mono ?_; rintro e w' ⟨rfl, rfl⟩))
    go_ret
    exact ⟨ret_b (by rw [HF.out]; try rfl), by first | exact HB1.out | exact Below.refl _ _⟩
  have gx : ix < 0 := by have := of_decide_eq_false HXF.out; omega
  cases d
  case true =>
    clear HFF HLL HZZ HXF
    go_enter Tryz.func34, Tryz.ntmps34
    go_wp2_with (first
        | (go_at_call 26; refine (HV.out _).mono ?_; rintro e w' ⟨rfl, rfl⟩)
        | (go_at_call 27; refine (HC.out _).mono ?_; rintro e w1 ⟨rfl, hb1⟩; have HB1 := Lib.hid hb1; have HE1 := Lib.hid (HE.out.below hb1); clear hb1)
        | (go_at_call 77; refine (HX.out _).mono ?_; rintro e w' ⟨rfl, rfl⟩)
        | (go_at_call 78; refine (HD.out _).mono ?_; rintro e w' ⟨rfl, rfl⟩)
        | (go_at_call 79; refine (HT1.out _ HE1.out).mono ?_; rintro e w' ⟨rfl, rfl⟩)
        | (go_at_call 79; refine (HT2.out _ HE1.out).mono ?_; rintro e w' ⟨rfl, rfl⟩))
    go_ret
    exact ⟨ret_b (by rw [HF.out]; try rfl), by first | exact HB1.out | exact Below.refl _ _⟩
  cases f
  case true =>
    have gf := bneB s[0] 32 (by have := of_decide_eq_true HFF.out.symm; omega)
    clear HFF HLL HZZ HXF
    go_enter Tryz.func34, Tryz.ntmps34
    go_wp2_with (first
        | (go_at_call 26; refine (HV.out _).mono ?_; rintro e w' ⟨rfl, rfl⟩)
        | (go_at_call 27; refine (HC.out _).mono ?_; rintro e w1 ⟨rfl, hb1⟩; have HB1 := Lib.hid hb1; have HE1 := Lib.hid (HE.out.below hb1); clear hb1)
        | (go_at_call 77; refine (HX.out _).mono ?_; rintro e w' ⟨rfl, rfl⟩)
        | (go_at_call 78; refine (HD.out _).mono ?_; rintro e w' ⟨rfl, rfl⟩)
        | (go_at_call 79; refine (HT1.out _ HE1.out).mono ?_; rintro e w' ⟨rfl, rfl⟩)
        | (go_at_call 79; refine (HT2.out _ HE1.out).mono ?_; rintro e w' ⟨rfl, rfl⟩))
    go_ret
    exact ⟨ret_b (by rw [HF.out]; try rfl), by first | exact HB1.out | exact Below.refl _ _⟩
  have gf := bneNB s[0] 32 (by have := of_decide_eq_false HFF.out.symm; omega)
  cases l
  case true =>
    have gl := bneB s[s.size - 1] 32 (by have := of_decide_eq_true HLL.out.symm; omega)
    clear HFF HLL HZZ HXF
    go_enter Tryz.func34, Tryz.ntmps34
    go_wp2_with (first
        | (go_at_call 26; refine (HV.out _).mono ?_; rintro e w' ⟨rfl, rfl⟩)
        | (go_at_call 27; refine (HC.out _).mono ?_; rintro e w1 ⟨rfl, hb1⟩; have HB1 := Lib.hid hb1; have HE1 := Lib.hid (HE.out.below hb1); clear hb1)
        | (go_at_call 77; refine (HX.out _).mono ?_; rintro e w' ⟨rfl, rfl⟩)
        | (go_at_call 78; refine (HD.out _).mono ?_; rintro e w' ⟨rfl, rfl⟩)
        | (go_at_call 79; refine (HT1.out _ HE1.out).mono ?_; rintro e w' ⟨rfl, rfl⟩)
        | (go_at_call 79; refine (HT2.out _ HE1.out).mono ?_; rintro e w' ⟨rfl, rfl⟩))
    go_ret
    exact ⟨ret_b (by rw [HF.out]; try rfl), by first | exact HB1.out | exact Below.refl _ _⟩
  have gl := bneNB s[s.size - 1] 32 (by have := of_decide_eq_false HLL.out.symm; omega)
  cases t1
  case true =>
    clear HFF HLL HZZ HXF
    go_enter Tryz.func34, Tryz.ntmps34
    go_wp2_with (first
        | (go_at_call 26; refine (HV.out _).mono ?_; rintro e w' ⟨rfl, rfl⟩)
        | (go_at_call 27; refine (HC.out _).mono ?_; rintro e w1 ⟨rfl, hb1⟩; have HB1 := Lib.hid hb1; have HE1 := Lib.hid (HE.out.below hb1); clear hb1)
        | (go_at_call 77; refine (HX.out _).mono ?_; rintro e w' ⟨rfl, rfl⟩)
        | (go_at_call 78; refine (HD.out _).mono ?_; rintro e w' ⟨rfl, rfl⟩)
        | (go_at_call 79; refine (HT1.out _ HE1.out).mono ?_; rintro e w' ⟨rfl, rfl⟩)
        | (go_at_call 79; refine (HT2.out _ HE1.out).mono ?_; rintro e w' ⟨rfl, rfl⟩))
    go_ret
    exact ⟨ret_b (by rw [HF.out]; try rfl), by first | exact HB1.out | exact Below.refl _ _⟩
  cases t2
  case true =>
    clear HFF HLL HZZ HXF
    go_enter Tryz.func34, Tryz.ntmps34
    go_wp2_with (first
        | (go_at_call 26; refine (HV.out _).mono ?_; rintro e w' ⟨rfl, rfl⟩)
        | (go_at_call 27; refine (HC.out _).mono ?_; rintro e w1 ⟨rfl, hb1⟩; have HB1 := Lib.hid hb1; have HE1 := Lib.hid (HE.out.below hb1); clear hb1)
        | (go_at_call 77; refine (HX.out _).mono ?_; rintro e w' ⟨rfl, rfl⟩)
        | (go_at_call 78; refine (HD.out _).mono ?_; rintro e w' ⟨rfl, rfl⟩)
        | (go_at_call 79; refine (HT1.out _ HE1.out).mono ?_; rintro e w' ⟨rfl, rfl⟩)
        | (go_at_call 79; refine (HT2.out _ HE1.out).mono ?_; rintro e w' ⟨rfl, rfl⟩))
    go_ret
    exact ⟨ret_b (by rw [HF.out]; try rfl), by first | exact HB1.out | exact Below.refl _ _⟩
  cases z
  case true =>
    have gz := bneB s[s.size - 1] 58 (by have := of_decide_eq_true HZZ.out.symm; omega)
    clear HFF HLL HZZ HXF
    go_enter Tryz.func34, Tryz.ntmps34
    go_wp2_with (first
        | (go_at_call 26; refine (HV.out _).mono ?_; rintro e w' ⟨rfl, rfl⟩)
        | (go_at_call 27; refine (HC.out _).mono ?_; rintro e w1 ⟨rfl, hb1⟩; have HB1 := Lib.hid hb1; have HE1 := Lib.hid (HE.out.below hb1); clear hb1)
        | (go_at_call 77; refine (HX.out _).mono ?_; rintro e w' ⟨rfl, rfl⟩)
        | (go_at_call 78; refine (HD.out _).mono ?_; rintro e w' ⟨rfl, rfl⟩)
        | (go_at_call 79; refine (HT1.out _ HE1.out).mono ?_; rintro e w' ⟨rfl, rfl⟩)
        | (go_at_call 79; refine (HT2.out _ HE1.out).mono ?_; rintro e w' ⟨rfl, rfl⟩))
    go_ret
    exact ⟨ret_b (by rw [HF.out]; try rfl), by first | exact HB1.out | exact Below.refl _ _⟩
  have gz := bneNB s[s.size - 1] 58 (by have := of_decide_eq_false HZZ.out.symm; omega)
  clear HFF HLL HZZ HXF
  go_enter Tryz.func34, Tryz.ntmps34
  go_wp2_with (first
      | (go_at_call 26; refine (HV.out _).mono ?_; rintro e w' ⟨rfl, rfl⟩)
      | (go_at_call 27; refine (HC.out _).mono ?_; rintro e w1 ⟨rfl, hb1⟩; have HB1 := Lib.hid hb1; have HE1 := Lib.hid (HE.out.below hb1); clear hb1)
      | (go_at_call 77; refine (HX.out _).mono ?_; rintro e w' ⟨rfl, rfl⟩)
      | (go_at_call 78; refine (HD.out _).mono ?_; rintro e w' ⟨rfl, rfl⟩)
      | (go_at_call 79; refine (HT1.out _ HE1.out).mono ?_; rintro e w' ⟨rfl, rfl⟩)
      | (go_at_call 79; refine (HT2.out _ HE1.out).mono ?_; rintro e w' ⟨rfl, rfl⟩))
  go_ret
  exact ⟨ret_b (by rw [HF.out]; try rfl), by first | exact HB1.out | exact Below.refl _ _⟩
end Go.Proofs.YtlnpfpjncnkekaaGreatDoor

namespace Go.Proofs.YtlnpfpjncnkekaaGreatDoor
open Go.RowKit
set_option maxHeartbeats 4000000
set_option maxRecDepth 100000

end Go.Proofs.YtlnpfpjncnkekaaGreatDoor

namespace Go.Proofs.YtlnpfpjncnkekaaGreatDoor
open Go.RowKit
set_option maxHeartbeats 4000000
set_option maxRecDepth 100000

def setS : List UInt8 := [32, 95, 45, 46, 47, 43, 36, 40, 41, 61]
theorem setS0 : ∀ n : Fin 256, decide (0 ≤ Lib.indexByte setS (UInt8.ofNat n.val)) = setS.contains (UInt8.ofNat n.val) := by decide +kernel
theorem setS_idx (b : UInt8) : decide (0 ≤ Lib.indexByte setS b) = setS.contains b := by
  have h := setS0 ⟨b.toNat, b.toNat_lt⟩
  simpa using h
/-- A byte of a simple string. -/
def okS (b : UInt8) : Bool := alpha b || dig b || decide (128 ≤ b.toNat) || setS.contains b
/-- A simple string. -/
def simpB (l : List UInt8) : Bool := decide (l ≠ []) && validL l && !(decide (l.head? = some 32)) && !(decide (l.getLast? = some 32)) && !dashB l && l.all okS
theorem okS_ways (b : UInt8) : (97 ≤ b.toNat ∧ b.toNat ≤ 122 ∧ okS b = true) ∨ (65 ≤ b.toNat ∧ b.toNat ≤ 90 ∧ okS b = true) ∨ (48 ≤ b.toNat ∧ b.toNat ≤ 57 ∧ okS b = true) ∨ (128 ≤ b.toNat ∧ okS b = true) ∨ (b.toNat < 48 ∧ okS b = setS.contains b) ∨ (58 ≤ b.toNat ∧ b.toNat ≤ 64 ∧ okS b = setS.contains b) ∨ (91 ≤ b.toNat ∧ b.toNat ≤ 96 ∧ okS b = setS.contains b) ∨ (123 ≤ b.toNat ∧ b.toNat < 128 ∧ okS b = setS.contains b) := by
  unfold okS alpha dig
  by_cases h1 : 97 ≤ b.toNat ∧ b.toNat ≤ 122
  · exact .inl ⟨h1.1, h1.2, by rw [decide_eq_true (.inl h1)]; rfl⟩
  by_cases h2 : 65 ≤ b.toNat ∧ b.toNat ≤ 90
  · exact .inr (.inl ⟨h2.1, h2.2, by rw [decide_eq_true (.inr h2)]; rfl⟩)
  rw [decide_eq_false (p := 97 ≤ b.toNat ∧ b.toNat ≤ 122 ∨ 65 ≤ b.toNat ∧ b.toNat ≤ 90) (fun h => h.elim h1 h2)]
  by_cases h3 : 48 ≤ b.toNat ∧ b.toNat ≤ 57
  · exact .inr (.inr (.inl ⟨h3.1, h3.2, by rw [decide_eq_true h3]; rfl⟩))
  rw [decide_eq_false h3]
  by_cases h4 : 128 ≤ b.toNat
  · exact .inr (.inr (.inr (.inl ⟨h4, by rw [decide_eq_true h4]; rfl⟩)))
  rw [decide_eq_false h4]
  refine .inr (.inr (.inr (.inr ?_)))
  by_cases h5 : b.toNat < 48
  · exact .inl ⟨h5, rfl⟩
  by_cases h6 : b.toNat ≤ 64
  · exact .inr (.inl ⟨by omega, h6, rfl⟩)
  by_cases h7 : b.toNat ≤ 96
  · exact .inr (.inr (.inl ⟨by omega, h7, rfl⟩))
  · exact .inr (.inr (.inr ⟨by omega, by omega, rfl⟩))
theorem IndexZ_any (b : UInt8) (w : World) : Calls Tryz.prog 77 #[.string ⟨#[32, 95, 45, 46, 47, 43, 36, 40, 41, 61]⟩, .int .u8 (b.toNat : Int)] w fun e w' => e = .returned (.int .i64 (Lib.indexByte setS b)) ∧ w = w' := by
  have h := Tryz.strings_IndexByte ⟨#[32, 95, 45, 46, 47, 43, 36, 40, 41, 61]⟩ (b.toNat : Int) w
  have hb : ((b.toNat : Int)).toNat.toUInt8 = b := by
    rw [Int.toNat_natCast]
    exact UInt8.ofNat_toNat
  rw [hb] at h
  exact h.mono fun _ _ h => ⟨h.1, h.2.symm⟩
theorem simpB_eq (s : ByteArray) (hp : 0 < s.size) (hq : s.size - 1 < s.size) : simpB (L s) =
    (validL (L s) && !(decide (s[0].toNat = 32)) && !(decide (s[s.size - 1].toNat = 32)) && !dashB (L s) && (L s).all okS) := by
  have hne : L s ≠ [] := by
    intro h
    have := congrArg List.length h
    rw [L_len, List.length_nil] at this
    omega
  have h0 : (L s).head? = some s[0] := by rw [List.head?_eq_getElem?, List.getElem?_eq_getElem (by rw [L_len]; exact hp)]; rfl
  have h2 : (L s).getLast? = some s[s.size - 1] := by
    rw [List.getLast?_eq_getElem?, List.getElem?_eq_getElem (by rw [L_len]; exact hq)]
    simp only [L_len]
    rfl
  have key : ∀ (b c : UInt8), decide (some b = some c) = decide (b.toNat = c.toNat) := by
    intro b c
    rw [decide_eq_decide, Option.some.injEq, UInt8.toNat_inj]
  unfold simpB
  rw [decide_eq_true hne, h0, h2, key, key, Bool.true_and]
  rfl
theorem simple_any (s : ByteArray) (w : World) (hs : s.size ≤ 1000000000) :
    Calls Tryz.prog 51 #[.string s] w fun e w' => e = .returned (.bool (simpB (L s))) ∧ w = w' := by
  have hm : s.size ≤ maxLen := by simp only [maxLen]; omega
  by_cases he : L s = []
  · have he1 : s.toList.isEmpty = true := by rw [empty_L]; simpa using he
    have HF : Hid (simpB (L s) = false) := by unfold Hid; rw [he]; rfl
    clear he
    go_enter Tryz.func51, Tryz.ntmps51
    go_wp2_with fail
    go_ret
    exact ⟨ret_b HF.out.symm, rfl⟩
  have he1 : s.toList.isEmpty = false := by rw [empty_L]; simpa using he
  have hp := size_pos he
  have hq : s.size - 1 < s.size := by omega
  have hkp : 1 ≤ (s.size : Int) := by omega
  have hkl : (s.size : Int) - 1 < (s.size : Int) := by omega
  have HF := Lib.hid (simpB_eq s hp hq)
  have HV := Lib.hid (fun w' => Valid_any s w' (by omega))
  have HD := Lib.hid (fun w' => dashed_any s w')
  generalize validL (L s) = v at *
  generalize dashB (L s) = d at *
  generalize simpB (L s) = sb at *
  obtain ⟨a, ha⟩ : ∃ a, a = (L s).all okS := ⟨_, rfl⟩
  rw [← ha] at HF
  have HA0 : Hid (a = ((L s).drop 0).all okS) := by unfold Hid; rw [List.drop_zero]; exact ha
  clear he ha
  obtain ⟨f, hf⟩ : ∃ f, f = decide (s[0].toNat = 32) := ⟨_, rfl⟩
  obtain ⟨l, hl⟩ : ∃ l, l = decide (s[s.size - 1].toNat = 32) := ⟨_, rfl⟩
  rw [← hf, ← hl] at HF
  have HFF := Lib.hid hf
  have HLL := Lib.hid hl
  clear hf hl
  cases v
  case false =>
    clear HFF HLL HA0
    go_enter Tryz.func51, Tryz.ntmps51
    go_wp2_with (first
        | (go_at_call 26; refine (HV.out _).mono ?_; rintro e w' ⟨rfl, rfl⟩)
        | (go_at_call 78; refine (HD.out _).mono ?_; rintro e w' ⟨rfl, rfl⟩))
    go_ret
    exact ⟨ret_b (by rw [HF.out]; try rfl), rfl⟩
  cases f
  case true =>
    have gf := beqB s[0] 32 (by have := of_decide_eq_true HFF.out.symm; omega)
    clear HFF HLL HA0
    go_enter Tryz.func51, Tryz.ntmps51
    go_wp2_with (first
        | (go_at_call 26; refine (HV.out _).mono ?_; rintro e w' ⟨rfl, rfl⟩)
        | (go_at_call 78; refine (HD.out _).mono ?_; rintro e w' ⟨rfl, rfl⟩))
    go_ret
    exact ⟨ret_b (by rw [HF.out]; try rfl), rfl⟩
  have gf := beqNB s[0] 32 (by have := of_decide_eq_false HFF.out.symm; omega)
  cases l
  case true =>
    have gl := beqB s[s.size - 1] 32 (by have := of_decide_eq_true HLL.out.symm; omega)
    clear HFF HLL HA0
    go_enter Tryz.func51, Tryz.ntmps51
    go_wp2_with (first
        | (go_at_call 26; refine (HV.out _).mono ?_; rintro e w' ⟨rfl, rfl⟩)
        | (go_at_call 78; refine (HD.out _).mono ?_; rintro e w' ⟨rfl, rfl⟩))
    go_ret
    exact ⟨ret_b (by rw [HF.out]; try rfl), rfl⟩
  have gl := beqNB s[s.size - 1] 32 (by have := of_decide_eq_false HLL.out.symm; omega)
  cases d
  case true =>
    clear HFF HLL HA0
    go_enter Tryz.func51, Tryz.ntmps51
    go_wp2_with (first
        | (go_at_call 26; refine (HV.out _).mono ?_; rintro e w' ⟨rfl, rfl⟩)
        | (go_at_call 78; refine (HD.out _).mono ?_; rintro e w' ⟨rfl, rfl⟩))
    go_ret
    exact ⟨ret_b (by rw [HF.out]; try rfl), rfl⟩
  have HG : Hid (sb = a) := by unfold Hid; rw [HF.out]; rfl
  clear HF HFF HLL
  go_enter Tryz.func51, Tryz.ntmps51
  go_wp2_with (first
      | (go_at_call 26; refine (HV.out _).mono ?_; rintro e w' ⟨rfl, rfl⟩)
      | (go_at_call 78; refine (HD.out _).mono ?_; rintro e w' ⟨rfl, rfl⟩))
  go_loopw [3, 4, 31] (fun _ _ iv wr => ∃ k : Nat, iv = .int .i64 (k : Int) ∧ k ≤ s.size ∧ Hid (a = ((L s).drop k).all okS) ∧ w = wr) (fun _ _ iv _ => s.size - (intOf iv).toNat)
  case atStart => exact ⟨0, rfl, Nat.zero_le _, HA0.out, rfl⟩
  case round =>
    clear HA0
    obtain ⟨k, rfl, hks, HA, rfl⟩ := hrel
    have hk0 : (0 : Int) ≤ (k : Int) := by omega
    by_cases hlt : k < s.size
    case neg =>
      have hc : a = true := by rw [HA.out, L_drop_nil s k (by omega)]; rfl
      subst hc
      clear HA
      go_wp2_with fail
      go_ret
      exact ⟨ret_b HG.out.symm, rfl⟩
    have hst := HA.out
    rw [L_drop s k hlt, List.all_cons] at hst
    have HS := Lib.hid hst
    clear HA hst
    have HX := Lib.hid (fun w' => IndexZ_any s[k] w')
    have HXS := setS_idx s[k]
    rcases okS_ways s[k] with ⟨b1, b2, b3⟩ | ⟨b1, b2, b3⟩ | ⟨b1, b2, b3⟩ | ⟨b1, b3⟩ | ⟨b2, b3⟩ | ⟨b1, b2, b3⟩ | ⟨b1, b2, b3⟩ | ⟨b1, b2, b3⟩
    all_goals
      rw [b3] at HS
      first | have f1 : (97 : Int) ≤ (s[k].toNat : Int) := by omega
            | have f1 : ((97 : Int) ≤ (s[k].toNat : Int)) = False := eq_false (by omega)
      first | have f2 : (s[k].toNat : Int) ≤ 122 := by omega
            | have f2 : ((s[k].toNat : Int) ≤ 122) = False := eq_false (by omega)
      first | have f3 : (65 : Int) ≤ (s[k].toNat : Int) := by omega
            | have f3 : ((65 : Int) ≤ (s[k].toNat : Int)) = False := eq_false (by omega)
      first | have f4 : (s[k].toNat : Int) ≤ 90 := by omega
            | have f4 : ((s[k].toNat : Int) ≤ 90) = False := eq_false (by omega)
      first | have f5 : (48 : Int) ≤ (s[k].toNat : Int) := by omega
            | have f5 : ((48 : Int) ≤ (s[k].toNat : Int)) = False := eq_false (by omega)
      first | have f6 : (s[k].toNat : Int) ≤ 57 := by omega
            | have f6 : ((s[k].toNat : Int) ≤ 57) = False := eq_false (by omega)
      first | have f7 : (128 : Int) ≤ (s[k].toNat : Int) := by omega
            | have f7 : ((128 : Int) ≤ (s[k].toNat : Int)) = False := eq_false (by omega)
    iterate 4
      · have HN : Hid (a = ((L s).drop (k + 1)).all okS) := by unfold Hid; rw [HS.out, Bool.true_and]
        clear HS HX HXS b3
        try clear b1
        try clear b2
        go_wp2_with fail
        exact ⟨⟨k + 1, by go_num, by omega, HN.out, trivial⟩, by simp [intOf]; omega⟩
    all_goals
      generalize Lib.indexByte setS s[k] = ix at *
      generalize setS.contains s[k] = cs at *
      try clear b1
      try clear b2
      cases cs
      · have gx : ((0 : Int) ≤ ix) = False := eq_false (of_decide_eq_false HXS)
        have hc : a = false := by rw [HS.out]; rfl
        subst hc
        clear HS HXS b3
        go_wp2_with (go_at_call 77; refine (HX.out _).mono ?_; rintro e w' ⟨rfl, rfl⟩)
        go_ret
        exact ⟨ret_b HG.out.symm, rfl⟩
      · have gx : ((0 : Int) ≤ ix) = True := eq_true (of_decide_eq_true HXS)
        have HN : Hid (a = ((L s).drop (k + 1)).all okS) := by unfold Hid; rw [HS.out, Bool.true_and]
        clear HS HXS b3
        go_wp2_with (go_at_call 77; refine (HX.out _).mono ?_; rintro e w' ⟨rfl, rfl⟩)
        exact ⟨⟨k + 1, by go_num, by omega, HN.out, trivial⟩, by simp [intOf]; omega⟩
end Go.Proofs.YtlnpfpjncnkekaaGreatDoor

namespace Go.Proofs.YtlnpfpjncnkekaaGreatDoor
open Go.RowKit
set_option maxHeartbeats 4000000
set_option maxRecDepth 100000

end Go.Proofs.YtlnpfpjncnkekaaGreatDoor

namespace Go.Proofs.YtlnpfpjncnkekaaGreatDoor
open Go.RowKit
set_option maxHeartbeats 1000000
set_option maxRecDepth 100000

theorem keyN_at (s : ByteArray) (k : Nat) (h : k < s.size) : keyN ((L s).drop k) = if endH ((L s).drop k) then 0 else 1 + keyN ((L s).drop (k + 1)) := by
  conv => lhs; rw [L_drop s k h, keyN]
  rw [← L_drop s k h]
theorem oneL_quot (t : List UInt8) : oneL ((34 : UInt8) :: t) = tok 5 (1 + (quotL t).2.1, (quotL t).2.2) := by
  simp only [oneL]
  rw [if_neg (by decide), if_neg (by decide), if_neg (by decide), if_neg (by decide), if_pos (by decide)]
theorem keyR_at (s : ByteArray) (hp : 0 < s.size) : keyR (L s) =
    if s[0].toNat = 34 then (if (quotR ((L s).drop 1)).2.2 ≠ 0 then noK else if endH ((L s).drop (quotR ((L s).drop 1)).2.1) then longK (quotR ((L s).drop 1)).1 (quotR ((L s).drop 1)).2.1 else noK)
    else if s[0].toNat = 39 then (if (singR ((L s).drop 1)).2.2 ≠ 0 then noK else if endH ((L s).drop (singR ((L s).drop 1)).2.1) then longK (singR ((L s).drop 1)).1 (singR ((L s).drop 1)).2.1 else noK)
    else if plainB ((L s).take (keyN (L s))) then (if endH ((L s).drop (keyN (L s))) then longK ((L s).take (keyN (L s))) (keyN (L s)) else noK) else noK := by
  have h := L_drop s 0 hp
  rw [List.drop_zero, Nat.zero_add] at h
  conv => lhs; rw [h]
  rw [keyR, ← h]
/-- What a key that is not too long is. -/
theorem longK_no {k : List UInt8} {n : Nat} (h : 1024 < k.length) : longK k n = ([], 0, 10) := if_pos h
theorem longK_ok {k : List UInt8} {n : Nat} (h : ¬ 1024 < k.length) : longK k n = (k, n, 0) := if_neg h
theorem KeyI_any (s : ByteArray) (w : World) (hs : s.size ≤ 1000000000) (hE : EnvI w) :
    Calls Tryz.prog 14 #[.string s] w fun e w' => e = .returned (.tuple #[.string ⟨(keyR (L s)).1.toArray⟩, .int .i64 (keyR (L s)).2.1, .int .i64 (keyR (L s)).2.2]) ∧ Below w.heap.size w w' := by
  have hm : s.size ≤ maxLen := by simp only [maxLen]; omega
  have HE := Lib.hid hE
  clear hE
  by_cases he : L s = []
  · have he1 : s.toList.isEmpty = true := by rw [empty_L]; simpa using he
    have HF : Hid (keyR (L s) = ([], 0, 7)) := by unfold Hid; rw [he]; rfl
    clear he
    go_enter Tryz.func14, Tryz.ntmps14
    go_wp2_with fail
    go_ret3
    exact ⟨ret3_str HF.out, Below.refl _ _⟩
  have he1 : s.toList.isEmpty = false := by rw [empty_L]; simpa using he
  have hp := size_pos he
  have hX := keyR_at s hp
  generalize hkr : keyR (L s) = kr at *
  clear he hkr
  have HEN := Lib.hid (fun n w' hn => ends_any s n w' hs hn)
  by_cases h34 : s[0].toNat = 34
  case pos =>
    have g := beqB s[0] 34 (by omega)
    rw [if_pos h34] at hX
    have hl := L_drop s 0 hp
    rw [List.drop_zero, Nat.zero_add, show s[0] = 34 from UInt8.toNat_inj.1 h34] at hl
    have hN : nextV s 0 = if (oneL (L s)).2.2 ≠ 0 then (.agg #[.int .i64 0, .string ⟨#[]⟩, .int .i64 0], (oneL (L s)).2.2) else (.agg #[.int .i64 (oneL (L s)).1, .string (s.extract 0 (oneL (L s)).2.1), .int .i64 0], 0) := by
      unfold nextV
      rw [List.drop_zero, Nat.zero_add]
      rfl
    have h1 : oneL (L s) = tok 5 (1 + (quotL ((L s).drop 1)).2.1, (quotL ((L s).drop 1)).2.2) := by
      conv => lhs; rw [hl]
      rw [oneL_quot]
    have HNX := Lib.hid (fun w' => Next_any s 0 w' hp (by omega))
    rw [hN, h1] at HNX
    clear hN h1 h34
    by_cases h0 : (quotL ((L s).drop 1)).2.2 = 0
    case neg =>
      have e1 : tok 5 (1 + (quotL ((L s).drop 1)).2.1, (quotL ((L s).drop 1)).2.2) = (0, 0, (quotL ((L s).drop 1)).2.2) := if_pos h0
      rw [e1] at HNX
      dsimp only at HNX
      rw [if_pos h0] at HNX
      have hq : (quotR ((L s).drop 1)).2.2 ≠ 0 := fun h => h0 (fin_ok (a := []) (k := 1) h).1
      have HF : Hid (kr = ([], 0, 7)) := by unfold Hid; rw [hX, if_pos hq]; rfl
      generalize (quotL ((L s).drop 1)).2.2 = er at *
      have g2 : ((er : Int) != 0) = true := by rw [bne_iff_ne]; omega
      clear hX hl h0 hq e1
      go_enter Tryz.func14, Tryz.ntmps14
      go_wp2_with (go_at_call 38; refine (HNX.out _).mono ?_; rintro e w1 ⟨rfl, hb1⟩)
      go_ret3
      exact ⟨ret3_str HF.out, hb1.alloc hb1.size _⟩
    have hx : quotL ((L s).drop 1) = ((quotL ((L s).drop 1)).1, (quotL ((L s).drop 1)).2.1, 0) := by rw [← h0]
    obtain ⟨i1, -, -, i4⟩ := quot_cut _ ((L s).drop 1) _ _ (Nat.le_refl _) hx
    have hu := unq_cut ((L s).drop 1) _ _ hx
    have hq : quotR ((L s).drop 1) = ((quotL ((L s).drop 1)).1, 1 + (quotL ((L s).drop 1)).2.1, 0) := by unfold quotR; rw [fin_of h0]; rfl
    rw [hq] at hX
    simp only [ne_eq, not_true_eq_false, if_false] at hX
    have e1 : tok 5 (1 + (quotL ((L s).drop 1)).2.1, (quotL ((L s).drop 1)).2.2) = (5, 1 + (quotL ((L s).drop 1)).2.1, 0) := if_neg (fun h => h h0)
    rw [e1] at HNX
    simp only [ne_eq, not_true_eq_false, if_false] at HNX
    have hut : ∀ m, L (s.extract 0 (1 + m)) = 34 :: ((L s).drop 1).take m := by
      intro m
      rw [L_upto, Nat.add_comm]
      conv => lhs; rw [hl]
      rw [List.take_succ_cons]
    rw [← hut] at hu
    rw [List.length_drop, L_len] at i1
    generalize (quotL ((L s).drop 1)).1 = x at *
    generalize (quotL ((L s).drop 1)).2.1 = m at *
    clear hx hq h0 e1 hl hut
    have hsz : (s.extract 0 (1 + m)).size = 1 + m := by rw [ByteArray.size_extract]; omega
    generalize s.extract 0 (1 + m) = tt at *
    have HUQ := Lib.hid (fun w' => Unquote_any tt w' (by omega))
    rw [hu] at HUQ
    rw [← hsz] at hX
    have HEQ := Lib.hid (fun w' => HEN.out tt.size w' (by omega))
    have hnn : tt.size ≤ s.size := by omega
    clear hu hsz
    clear i1 i4 HEN
    have HBB : Hid (∀ (w1 w2 : World) (o : Obj), Below w.heap.size w w1 → Below (w1.alloc o).heap.size (w1.alloc o) w2 → Below w.heap.size w w2) := by
      intro w1 w2 o h1 h2
      exact (h1.alloc h1.size o).trans (h2.mono (h1.alloc h1.size o).size)
    obtain ⟨xb, hxb⟩ : ∃ xb : ByteArray, (⟨x.toArray⟩ : ByteArray) = xb := ⟨_, rfl⟩
    have hxl : x = L xb := by rw [← hxb, L_mk]
    rw [hxb] at HUQ
    rw [hxl] at hX
    clear hxb hxl
    cases hen : endH ((L s).drop tt.size)
    case false =>
      rw [hen] at HEQ hX
      have HF : Hid (kr = ([], 0, 7)) := by unfold Hid; rw [hX]; rfl
      clear hX hen
      go_enter Tryz.func14, Tryz.ntmps14
      go_wp2_with (first
        | (go_at_call 38; refine (HNX.out _).mono ?_; rintro e w1 ⟨rfl, hb1⟩; have HB1 := Lib.hid hb1; clear hb1)
        | (go_at_call 39; refine (HUQ.out _).mono ?_; rintro e w2 ⟨rfl, hb2⟩; have HB2 := Lib.hid hb2; clear hb2)
        | (go_at_call 40; refine (HSI.out _).mono ?_; rintro e w2 ⟨rfl, hb2⟩; have HB2 := Lib.hid hb2; clear hb2)
        | (go_at_call 41; refine (HEQ.out _).mono ?_; rintro e w' ⟨rfl, rfl⟩))
      go_ret3
      exact ⟨ret3_str HF.out, HBB.out _ _ _ HB1.out HB2.out⟩
    rw [hen] at HEQ hX
    rw [if_pos rfl] at hX
    by_cases hlg : 1024 < xb.size
    · have HF : Hid (kr = ([], 0, 10)) := by unfold Hid; rw [hX, longK_no (by rw [L_len]; exact hlg)]
      have gl : (1024 : Int) < (xb.size : Int) := by omega
      clear hX hen hlg
      go_enter Tryz.func14, Tryz.ntmps14
      go_wp2_with (first
        | (go_at_call 38; refine (HNX.out _).mono ?_; rintro e w1 ⟨rfl, hb1⟩; have HB1 := Lib.hid hb1; clear hb1)
        | (go_at_call 39; refine (HUQ.out _).mono ?_; rintro e w2 ⟨rfl, hb2⟩; have HB2 := Lib.hid hb2; clear hb2)
        | (go_at_call 40; refine (HSI.out _).mono ?_; rintro e w2 ⟨rfl, hb2⟩; have HB2 := Lib.hid hb2; clear hb2)
        | (go_at_call 41; refine (HEQ.out _).mono ?_; rintro e w' ⟨rfl, rfl⟩))
      go_ret3
      exact ⟨ret3_str HF.out, HBB.out _ _ _ HB1.out HB2.out⟩
    · have HF : Hid (kr = (L xb, tt.size, 0)) := by unfold Hid; rw [hX, longK_ok (by rw [L_len]; exact hlg)]
      have gl : ¬ (1024 : Int) < (xb.size : Int) := by omega
      clear hX hen hlg
      go_enter Tryz.func14, Tryz.ntmps14
      go_wp2_with (first
        | (go_at_call 38; refine (HNX.out _).mono ?_; rintro e w1 ⟨rfl, hb1⟩; have HB1 := Lib.hid hb1; clear hb1)
        | (go_at_call 39; refine (HUQ.out _).mono ?_; rintro e w2 ⟨rfl, hb2⟩; have HB2 := Lib.hid hb2; clear hb2)
        | (go_at_call 40; refine (HSI.out _).mono ?_; rintro e w2 ⟨rfl, hb2⟩; have HB2 := Lib.hid hb2; clear hb2)
        | (go_at_call 41; refine (HEQ.out _).mono ?_; rintro e w' ⟨rfl, rfl⟩))
      go_ret3
      exact ⟨ret3_str (l := L xb) HF.out, HBB.out _ _ _ HB1.out HB2.out⟩
  have g := beqNB s[0] 34 (by omega)
  rw [if_neg h34] at hX
  by_cases h39 : s[0].toNat = 39
  case pos =>
    have g2 := beqB s[0] 39 (by omega)
    rw [if_pos h39] at hX
    have HSI := Lib.hid (fun w' => single_any s w' hp hs)
    have hxl : (singR ((L s).drop 1)).2.2 = 0 → (singR ((L s).drop 1)).2.1 ≤ s.size := by
      intro h0
      have h1 := fin_ok (a := []) (k := 1) (x := singL ((L s).drop 1)) h0
      have hx : singL ((L s).drop 1) = ((singL ((L s).drop 1)).1, (singL ((L s).drop 1)).2.1, 0) := by rw [← h1.1]
      obtain ⟨i1, -⟩ := sing_cut _ ((L s).drop 1) _ _ (Nat.le_refl _) hx
      unfold singR
      rw [h1.2]
      rw [List.length_drop, L_len] at i1
      show 1 + _ ≤ _
      omega
    clear h34 h39
    generalize singR ((L s).drop 1) = sr at *
    obtain ⟨x, n, er⟩ := sr
    dsimp only at hX HSI hxl
    by_cases h0 : er = 0
    case neg =>
      have g3 : ((er : Int) != 0) = true := by rw [bne_iff_ne]; omega
      have HF : Hid (kr = ([], 0, 7)) := by unfold Hid; rw [hX, if_pos h0]; rfl
      clear hX hxl h0 HEN
      go_enter Tryz.func14, Tryz.ntmps14
      go_wp2_with (go_at_call 40; refine (HSI.out _).mono ?_; rintro e w2 ⟨rfl, hb2⟩; have HB2 := Lib.hid hb2; clear hb2)
      go_ret3
      exact ⟨ret3_str HF.out, HB2.out⟩
    subst h0
    rw [if_neg (by simp)] at hX
    have hnn := hxl rfl
    have HEQ := Lib.hid (fun w' => HEN.out n w' hnn)
    clear hxl HEN
    obtain ⟨xb, hxb⟩ : ∃ xb : ByteArray, (⟨x.toArray⟩ : ByteArray) = xb := ⟨_, rfl⟩
    have hxl : x = L xb := by rw [← hxb, L_mk]
    rw [hxb] at HSI
    rw [hxl] at hX
    clear hxb hxl
    cases hen : endH ((L s).drop n)
    case false =>
      rw [hen] at HEQ hX
      have HF : Hid (kr = ([], 0, 7)) := by unfold Hid; rw [hX]; rfl
      clear hX hen
      go_enter Tryz.func14, Tryz.ntmps14
      go_wp2_with (first
        | (go_at_call 38; refine (HNX.out _).mono ?_; rintro e w1 ⟨rfl, hb1⟩; have HB1 := Lib.hid hb1; clear hb1)
        | (go_at_call 39; refine (HUQ.out _).mono ?_; rintro e w2 ⟨rfl, hb2⟩; have HB2 := Lib.hid hb2; clear hb2)
        | (go_at_call 40; refine (HSI.out _).mono ?_; rintro e w2 ⟨rfl, hb2⟩; have HB2 := Lib.hid hb2; clear hb2)
        | (go_at_call 41; refine (HEQ.out _).mono ?_; rintro e w' ⟨rfl, rfl⟩))
      go_ret3
      exact ⟨ret3_str HF.out, HB2.out⟩
    rw [hen] at HEQ hX
    rw [if_pos rfl] at hX
    by_cases hlg : 1024 < xb.size
    · have HF : Hid (kr = ([], 0, 10)) := by unfold Hid; rw [hX, longK_no (by rw [L_len]; exact hlg)]
      have gl : (1024 : Int) < (xb.size : Int) := by omega
      clear hX hen hlg
      go_enter Tryz.func14, Tryz.ntmps14
      go_wp2_with (first
        | (go_at_call 38; refine (HNX.out _).mono ?_; rintro e w1 ⟨rfl, hb1⟩; have HB1 := Lib.hid hb1; clear hb1)
        | (go_at_call 39; refine (HUQ.out _).mono ?_; rintro e w2 ⟨rfl, hb2⟩; have HB2 := Lib.hid hb2; clear hb2)
        | (go_at_call 40; refine (HSI.out _).mono ?_; rintro e w2 ⟨rfl, hb2⟩; have HB2 := Lib.hid hb2; clear hb2)
        | (go_at_call 41; refine (HEQ.out _).mono ?_; rintro e w' ⟨rfl, rfl⟩))
      go_ret3
      exact ⟨ret3_str HF.out, HB2.out⟩
    · have HF : Hid (kr = (L xb, n, 0)) := by unfold Hid; rw [hX, longK_ok (by rw [L_len]; exact hlg)]
      have gl : ¬ (1024 : Int) < (xb.size : Int) := by omega
      clear hX hen hlg
      go_enter Tryz.func14, Tryz.ntmps14
      go_wp2_with (first
        | (go_at_call 38; refine (HNX.out _).mono ?_; rintro e w1 ⟨rfl, hb1⟩; have HB1 := Lib.hid hb1; clear hb1)
        | (go_at_call 39; refine (HUQ.out _).mono ?_; rintro e w2 ⟨rfl, hb2⟩; have HB2 := Lib.hid hb2; clear hb2)
        | (go_at_call 40; refine (HSI.out _).mono ?_; rintro e w2 ⟨rfl, hb2⟩; have HB2 := Lib.hid hb2; clear hb2)
        | (go_at_call 41; refine (HEQ.out _).mono ?_; rintro e w' ⟨rfl, rfl⟩))
      go_ret3
      exact ⟨ret3_str (l := L xb) HF.out, HB2.out⟩
  have g2 := beqNB s[0] 39 (by omega)
  rw [if_neg h39] at hX
  have hkl := keyN_le (L s)
  rw [L_len] at hkl
  obtain ⟨n, hn⟩ : ∃ n, n = keyN (L s) := ⟨_, rfl⟩
  rw [← hn] at hX hkl
  have HK0 : Hid (n = 0 + keyN ((L s).drop 0)) := by unfold Hid; rw [List.drop_zero, Nat.zero_add]; exact hn
  clear hn h34 h39
  go_enter Tryz.func14, Tryz.ntmps14
  go_wp2_with fail
  go_loopw [5] (fun iv wr => ∃ k : Nat, iv = .int .i64 (k : Int) ∧ k ≤ s.size ∧ Hid (n = k + keyN ((L s).drop k)) ∧ w = wr) (fun iv _ => s.size - (intOf iv).toNat)
  case atStart => exact ⟨0, rfl, Nat.zero_le _, HK0.out, rfl⟩
  case round =>
    clear HK0
    obtain ⟨k, rfl, hks, HK, rfl⟩ := hrel
    have hk0 : (0 : Int) ≤ (k : Int) := by omega
    by_cases hgo : k < s.size ∧ endH ((L s).drop k) = false
    case pos =>
      obtain ⟨hlt, hen⟩ := hgo
      have HEQ := Lib.hid (fun w' => HEN.out k w' hks)
      rw [hen] at HEQ
      have HN : Hid (n = (k + 1) + keyN ((L s).drop (k + 1))) := by
        unfold Hid
        rw [HK.out, keyN_at s k hlt, hen, if_neg (by simp)]
        omega
      clear HK hen hX
      go_wp2_with (go_at_call 41; refine (HEQ.out _).mono ?_; rintro e w' ⟨rfl, rfl⟩)
      exact ⟨⟨k + 1, by go_num, by omega, HN.out, trivial⟩, by simp [intOf]; omega⟩
    case neg =>
      have hnk : n = k := by
        rw [HK.out]
        by_cases hlt : k < s.size
        · rw [keyN_at s k hlt]
          have : endH ((L s).drop k) = true := by
            cases h : endH ((L s).drop k)
            · exact absurd ⟨hlt, h⟩ hgo
            · rfl
          rw [this, if_pos rfl]
          omega
        · rw [L_drop_nil s k (by omega)]
          rfl
      subst hnk
      have HEQ := Lib.hid (fun w' => HEN.out n w' hks)
      have hel : n < s.size → endH ((L s).drop n) = true := by
        intro hlt
        cases h : endH ((L s).drop n)
        · exact absurd ⟨hlt, h⟩ hgo
        · rfl
      have hnl : ¬ n < s.size → endH ((L s).drop n) = false := fun h => by rw [L_drop_nil s n (by omega)]; rfl
      have hxL : L (s.extract 0 n) = (L s).take n := L_upto s n
      have hxz : (s.extract 0 n).size = n := by rw [ByteArray.size_extract]; omega
      have HLO := Lib.hid (fun w' (h : EnvI w') => loose_any (s.extract 0 n) w' (by omega) h)
      rw [← hxL] at hX
      clear HK hgo HEN hxL
      by_cases hlt : n < s.size
      case neg =>
        have hen := hnl hlt
        rw [hen] at hX HEQ
        have HF : Hid (kr = ([], 0, 7)) := by unfold Hid; rw [hX]; split <;> rfl
        clear hX hel hnl hen
        cases hpl : plainB (L (s.extract 0 n))
        all_goals
          rw [hpl] at HLO
          clear hpl
          go_wp2_with (first
            | (go_at_call 34; refine (HLO.out _ HE.out).mono ?_; rintro e w1 ⟨rfl, hb1⟩; have HB1 := Lib.hid hb1; clear hb1)
            | (go_at_call 41; refine (HEQ.out _).mono ?_; rintro e w' ⟨rfl, rfl⟩))
          go_ret3
          exact ⟨ret3_str HF.out, HB1.out⟩
      have hen := hel hlt
      rw [hen] at hX HEQ
      rw [if_pos rfl] at hX
      clear hel hnl hen
      cases hpl : plainB (L (s.extract 0 n))
      case false =>
        rw [hpl] at HLO hX
        have HF : Hid (kr = ([], 0, 7)) := by unfold Hid; rw [hX]; rfl
        clear hX hpl
        go_wp2_with (first
          | (go_at_call 34; refine (HLO.out _ HE.out).mono ?_; rintro e w1 ⟨rfl, hb1⟩; have HB1 := Lib.hid hb1; clear hb1)
          | (go_at_call 41; refine (HEQ.out _).mono ?_; rintro e w' ⟨rfl, rfl⟩))
        go_ret3
        exact ⟨ret3_str HF.out, HB1.out⟩
      rw [hpl] at HLO hX
      rw [if_pos rfl] at hX
      by_cases hlg : 1024 < n
      · have HF : Hid (kr = ([], 0, 10)) := by unfold Hid; rw [hX, longK_no (by rw [L_len, hxz]; exact hlg)]
        have gl : (1024 : Int) < (n : Int) := by omega
        clear hX hpl hlg
        go_wp2_with (first
          | (go_at_call 34; refine (HLO.out _ HE.out).mono ?_; rintro e w1 ⟨rfl, hb1⟩; have HB1 := Lib.hid hb1; clear hb1)
          | (go_at_call 41; refine (HEQ.out _).mono ?_; rintro e w' ⟨rfl, rfl⟩))
        go_ret3
        exact ⟨ret3_str HF.out, HB1.out⟩
      · have HF : Hid (kr = (L (s.extract 0 n), n, 0)) := by unfold Hid; rw [hX, longK_ok (by rw [L_len, hxz]; exact hlg)]
        have gl : ¬ (1024 : Int) < (n : Int) := by omega
        clear hX hpl hlg
        go_wp2_with (first
          | (go_at_call 34; refine (HLO.out _ HE.out).mono ?_; rintro e w1 ⟨rfl, hb1⟩; have HB1 := Lib.hid hb1; clear hb1)
          | (go_at_call 41; refine (HEQ.out _).mono ?_; rintro e w' ⟨rfl, rfl⟩))
        go_ret3
        exact ⟨ret3_str (l := L (s.extract 0 n)) HF.out, HB1.out⟩
end Go.Proofs.YtlnpfpjncnkekaaGreatDoor

namespace Go.Proofs.YtlnpfpjncnkekaaGreatDoor
open Go.RowKit
set_option maxHeartbeats 2000000
set_option maxRecDepth 100000

end Go.Proofs.YtlnpfpjncnkekaaGreatDoor

namespace Go.Proofs.YtlnpfpjncnkekaaGreatDoor
open Go.RowKit
set_option maxHeartbeats 2000000
set_option maxRecDepth 100000

end Go.Proofs.YtlnpfpjncnkekaaGreatDoor
