/- The two ways to read an offset are one: plain law, no program in sight. Conditions: none. -/
import Derived.Test.YtgddhkanfcpipaaGreatDoorZk17
namespace Go.Proofs.YtgddhkanfcpipaaGreatDoor
open Go.RowKit
set_option maxHeartbeats 2000000
set_option maxRecDepth 100000

/-- Whether a string begins as the form says; a d stands for a digit. -/
def likeB : List UInt8 → List UInt8 → Bool
  | _, [] => true
  | [], _ :: _ => false
  | c :: l, f :: t => (if f.toNat = 100 then dig c else decide (c.toNat = f.toNat)) && likeB l t
theorem likeB_short : ∀ (l f : List UInt8), l.length < f.length → likeB l f = false
  | _, [], h => absurd h (Nat.not_lt_zero _)
  | [], _ :: _, _ => rfl
  | c :: l, f :: t, h => by
    rw [likeB, likeB_short l t (by simpa using h), Bool.and_false]
theorem like_any (s f : ByteArray) (w : World) (hs : s.size ≤ 1000000000) (hf : f.size ≤ 100) :
    Calls Tryz.prog 102 #[.string s, .string f] w fun e w' => e = .returned (.bool (likeB (L s) (L f))) ∧ Below w.heap.size w w' := by
  have hm : s.size ≤ maxLen := by simp only [maxLen]; omega
  have hmf : f.size ≤ maxLen := by simp only [maxLen]; omega
  obtain ⟨r, hr⟩ : ∃ r, r = likeB (L s) (L f) := ⟨_, rfl⟩
  rw [← hr]
  by_cases hsf : s.size < f.size
  · have HF : Hid (r = false) := by unfold Hid; rw [hr]; exact likeB_short _ _ (by rw [L_len, L_len]; exact hsf)
    have g : (s.size : Int) < (f.size : Int) := by omega
    clear hr hsf
    go_enter Tryz.func102, Tryz.ntmps102
    go_wp2_with fail
    go_ret
    exact ⟨by rw [HF.out]; rfl, Below.refl _ _⟩
  have g : ((s.size : Int) < (f.size : Int)) = False := eq_false (by omega)
  have HR0 : Hid (r = likeB ((L s).drop 0) ((L f).drop 0)) := by unfold Hid; rw [List.drop_zero, List.drop_zero]; exact hr
  clear hr
  go_enter Tryz.func102, Tryz.ntmps102
  go_wp2_with fail
  clear g
  go_loopw [5] (fun iv wr => ∃ i : Nat, iv = .int .i64 (i : Int) ∧ i ≤ f.size ∧ Hid (r = likeB ((L s).drop i) ((L f).drop i)) ∧ Hid (Below w.heap.size w wr)) (fun iv _ => f.size - (intOf iv).toNat)
  case atStart => exact ⟨0, rfl, Nat.zero_le _, HR0.out, Below.refl _ _⟩
  case round =>
    clear HR0
    obtain ⟨i, rfl, hif, HR, HBW⟩ := hrel
    have hi0 : (0 : Int) ≤ (i : Int) := by omega
    by_cases hlt : i < f.size
    case neg =>
      have HF : Hid (r = true) := by
        unfold Hid
        rw [HR.out, L_drop_nil f i (by omega)]
        cases (L s).drop i <;> rfl
      clear HR
      go_wp2_with fail
      go_ret
      exact ⟨by rw [HF.out]; rfl, HBW.out⟩
    have his : i < s.size := by omega
    have hst := HR.out
    rw [L_drop s i his, L_drop f i hlt, likeB] at hst
    clear HR
    by_cases h100 : f[i].toNat = 100
    case pos =>
      have g1 := beqB f[i] 100 (by omega)
      have g2 := bneB f[i] 100 (by omega)
      rw [if_pos h100] at hst
      by_cases hd : dig s[i] = true
      case pos =>
        have hd2 : 48 ≤ s[i].toNat ∧ s[i].toNat ≤ 57 := of_decide_eq_true hd
        have g3 : ((s[i].toNat : Int) < 48) = False := eq_false (by omega)
        have g4 : ((57 : Int) < (s[i].toNat : Int)) = False := eq_false (by omega)
        have HN : Hid (r = likeB ((L s).drop (i + 1)) ((L f).drop (i + 1))) := by unfold Hid; rw [hst, hd, Bool.true_and]
        clear hst hd hd2 h100
        go_wp2_with fail
        go_quiet (fail)
        go_wp2_with fail
        exact ⟨⟨i + 1, by go_num, by omega, HN.out, HBW.out.trans (drewN_below _ _ _)⟩, by simp [intOf]; omega⟩
      case neg =>
        have HF : Hid (r = false) := by unfold Hid; rw [hst, Bool.eq_false_iff.2 hd, Bool.false_and]
        have hd2 : ¬ (48 ≤ s[i].toNat ∧ s[i].toNat ≤ 57) := fun h => hd (decide_eq_true h)
        by_cases h48 : s[i].toNat < 48
        all_goals
          first
            | have g3 : ((s[i].toNat : Int) < 48) = True := eq_true (by omega)
            | have g3 : ((s[i].toNat : Int) < 48) = False := eq_false (by omega)
              have g4 : ((57 : Int) < (s[i].toNat : Int)) = True := eq_true (by omega)
          clear hst hd hd2 h100 h48
          go_wp2_with fail
          go_quiet (fail)
          go_wp2_with fail
          go_ret
          exact ⟨by rw [HF.out]; rfl, HBW.out.trans (drewN_below _ _ _)⟩
    case neg =>
      have g1 := beqNB f[i] 100 (by omega)
      have g2 := bneNB f[i] 100 (by omega)
      rw [if_neg h100] at hst
      by_cases he : s[i].toNat = f[i].toNat
      case pos =>
        have g3 : ((s[i].toNat : Int) != (f[i].toNat : Int)) = false := by rw [bne_eq_false_iff_eq]; omega
        have HN : Hid (r = likeB ((L s).drop (i + 1)) ((L f).drop (i + 1))) := by unfold Hid; rw [hst, decide_eq_true he, Bool.true_and]
        clear hst he h100
        go_wp2_with fail
        go_quiet (fail)
        go_wp2_with fail
        exact ⟨⟨i + 1, by go_num, by omega, HN.out, HBW.out.trans (drewN_below _ _ _)⟩, by simp [intOf]; omega⟩
      case neg =>
        have g3 : ((s[i].toNat : Int) != (f[i].toNat : Int)) = true := by rw [bne_iff_ne]; omega
        have HF : Hid (r = false) := by unfold Hid; rw [hst, decide_eq_false he, Bool.false_and]
        clear hst he h100
        go_wp2_with fail
        go_quiet (fail)
        go_wp2_with fail
        go_ret
        exact ⟨by rw [HF.out]; rfl, HBW.out.trans (drewN_below _ _ _)⟩
theorem number5_any (s : ByteArray) (w : World) (h9 : s.size ≤ 9) (ha : (L s).all dig = true) :
    Calls Tryz.prog 105 #[.string s] w fun e w' => e = .returned (.int .i64 (valL 0 (L s) : Nat)) ∧ w = w' := by
  have HA := Lib.hid ha
  clear ha
  go_enter Tryz.func105, Tryz.ntmps105
  go_wp2_with fail
  go_loop [3, 4] (fun n v => ∃ k : Nat, v = .int .i64 (k : Int) ∧ k ≤ s.size ∧ n = .int .i64 (valL 0 ((L s).take k) : Nat)) (fun _ v => s.size - (intOf v).toNat)
  case atStart => exact ⟨0, rfl, Nat.zero_le _, rfl⟩
  case round =>
    obtain ⟨k, rfl, hk, rfl⟩ := hrel
    by_cases hlt : k < s.size
    case neg =>
      have HF : Hid (valL 0 ((L s).take k) = valL 0 (L s)) := by unfold Hid; rw [List.take_of_length_le (by rw [L_len]; omega)]
      clear HA
      go_wp2_with fail
      go_ret
      exact ⟨by rw [HF.out]; try rfl, rfl⟩
    have HB := Lib.hid (valL_bd s k hk (by omega) HA.out)
    have hbd : ((valL 0 ((L s).take k) : Nat) : Int) ≤ 1000000000000 := by have := HB.out; omega
    have HN : Hid (valL 0 ((L s).take (k + 1)) = 10 * valL 0 ((L s).take k) + ((s[k]).toNat - 48)) := by unfold Hid; rw [take_succ_L s k hlt, valL_snoc]
    obtain ⟨hd1, hd2⟩ := dig_at s k hlt HA.out
    have hd1i : (48 : Int) ≤ ((s[k]).toNat : Int) := by omega
    have hd2i : ((s[k]).toNat : Int) ≤ 57 := by omega
    clear HA
    generalize valL 0 ((L s).take k) = n at *
    go_wp2_with fail
    exact ⟨⟨k + 1, by go_num, by omega, congrArg (Value.int .i64) (by have := HN.out; omega)⟩, by simp [intOf]; omega⟩
end Go.Proofs.YtgddhkanfcpipaaGreatDoor

namespace Go.Proofs.YtgddhkanfcpipaaGreatDoor
open Go.RowKit
set_option maxHeartbeats 600000
set_option maxRecDepth 100000

abbrev hmsF : ByteArray := ⟨#[100, 100, 58, 100, 100, 58, 100, 100]⟩
def zer9 : List UInt8 := [48, 48, 48, 48, 48, 48, 48, 48, 48]
/-- A time of day without its fraction: nanoseconds, whether it is one. -/
def hmsN (l : List UInt8) : Nat := ((valL 0 (l.take 2) * 60 + valL 0 ((l.drop 3).take 2)) * 60 + valL 0 ((l.drop 6).take 2)) * 1000000000
def hmsI (l : List UInt8) : Bool := decide (valL 0 (l.take 2) ≤ 23 ∧ valL 0 ((l.drop 3).take 2) ≤ 59 ∧ valL 0 ((l.drop 6).take 2) ≤ 59)
def noC : Nat × List UInt8 × Bool × Bool := (0, [], false, false)
/-- What takeClock hands back. -/
def tcR (l : List UInt8) : Nat × List UInt8 × Bool × Bool :=
  if likeB l (L hmsF) = false then noC
  else if (l.drop 8).head? = some 46 then
    (if runL (l.drop 9) < 1 ∨ 9 < runL (l.drop 9) then noC
     else (hmsN l + valL 0 (((l.drop 9).take (runL (l.drop 9)) ++ zer9).take 9), l.drop (9 + runL (l.drop 9)), true, hmsI l))
  else (hmsN l, l.drop 8, true, hmsI l)
theorem likeB_len : ∀ (l f : List UInt8), likeB l f = true → f.length ≤ l.length
  | _, [], _ => Nat.zero_le _
  | [], _ :: _, h => by cases h
  | c :: l, f :: t, h => by
    rw [likeB, Bool.and_eq_true] at h
    have := likeB_len l t h.2
    simp only [List.length_cons]
    omega
theorem hms_digs (l : List UInt8) (h : likeB l (L hmsF) = true) : 8 ≤ l.length ∧ (l.take 2).all dig = true ∧ ((l.drop 3).take 2).all dig = true ∧ ((l.drop 6).take 2).all dig = true ∧ l[2]? = some 58 ∧ l[5]? = some 58 := by
  have hlen := likeB_len _ _ h
  have hl8 : 8 ≤ l.length := hlen
  obtain ⟨a0, a1, a2, a3, a4, a5, a6, a7, t, rfl⟩ : ∃ a0 a1 a2 a3 a4 a5 a6 a7 t, l = a0 :: a1 :: a2 :: a3 :: a4 :: a5 :: a6 :: a7 :: t := by
    match l, hl8 with
    | a0 :: a1 :: a2 :: a3 :: a4 :: a5 :: a6 :: a7 :: t, _ => exact ⟨a0, a1, a2, a3, a4, a5, a6, a7, t, rfl⟩
  have h' : likeB (a0 :: a1 :: a2 :: a3 :: a4 :: a5 :: a6 :: a7 :: t) [100, 100, 58, 100, 100, 58, 100, 100] = true := h
  simp [likeB] at h'
  obtain ⟨h0, h1, h2, h3, h4, h5, h6, h7⟩ := h'
  have e2 : a2 = 58 := UInt8.toNat_inj.1 h2
  have e5 : a5 = 58 := UInt8.toNat_inj.1 h5
  refine ⟨hl8, ?_, ?_, ?_, ?_, ?_⟩
  · simp [h0, h1]
  · simp [h3, h4]
  · simp [h6, h7]
  · rw [e2]; rfl
  · rw [e5]; rfl
theorem run_dig : ∀ (l : List UInt8), (l.take (runL l)).all dig = true
  | [] => rfl
  | b :: t => by
    have ih := run_dig t
    show ((b :: t).take (if dig b then runL t + 1 else 0)).all dig = true
    cases hb : dig b
    · rfl
    · rw [if_pos rfl, List.take_succ_cons, List.all_cons, hb, ih]
      rfl
theorem tcPost {x : Nat × List UInt8 × Bool × Bool} {n : Nat} {l : List UInt8} {a b : Bool} (h : x = (n, l, a, b)) : Ending.returned (.tuple #[.int .i64 (n : Nat), .string ⟨l.toArray⟩, .bool a, .bool b]) = Ending.returned (.tuple #[.int .i64 (x.1 : Nat), .string ⟨x.2.1.toArray⟩, .bool x.2.2.1, .bool x.2.2.2]) := by rw [h]
theorem takeClock_any (s : ByteArray) (w : World) (hs : s.size ≤ 1000000000) :
    Calls Tryz.prog 103 #[.string s] w fun e w' => e = .returned (.tuple #[.int .i64 ((tcR (L s)).1 : Nat), .string ⟨(tcR (L s)).2.1.toArray⟩, .bool (tcR (L s)).2.2.1, .bool (tcR (L s)).2.2.2]) ∧ Below w.heap.size w w' := by
  have hm : s.size ≤ maxLen := by simp only [maxLen]; omega
  obtain ⟨r, hr⟩ : ∃ r, r = tcR (L s) := ⟨_, rfl⟩
  rw [← hr]
  unfold tcR at hr
  have HLK := Lib.hid (fun w' => like_any s hmsF w' hs (by decide))
  cases hlk : likeB (L s) (L hmsF)
  case false =>
    rw [hlk] at HLK
    have HF : Hid (r = (0, [], false, false)) := by unfold Hid; rw [hr, if_pos hlk]; rfl
    clear hr hlk
    go_enter Tryz.func103, Tryz.ntmps103
    go_wp2_with (go_at_call 102; refine (HLK.out _).mono ?_; rintro e w1 ⟨rfl, hb1⟩; have HB1 := Lib.hid hb1; clear hb1)
    refine bodyPost_ret (v := .tuple #[.int .i64 0, .string ⟨#[]⟩, .bool false, .bool false]) (by simp [results, Tryz.results103, go_sem]) rfl ⟨tcPost HF.out, HB1.out⟩
  obtain ⟨h8, d1, d2, d3, -, -⟩ := hms_digs _ hlk
  rw [L_len] at h8
  rw [if_neg (by rw [hlk]; simp)] at hr
  rw [hlk] at HLK
  have N1 := Lib.hid (fun w' => (number5_any (s.extract 0 2) w' (by rw [ByteArray.size_extract]; omega) (by rw [L_upto]; exact d1)).mono fun e w2 h => (⟨h.1, h.2.symm⟩ : _ ∧ w2 = w'))
  have N2 := Lib.hid (fun w' => (number5_any (s.extract 3 5) w' (by rw [ByteArray.size_extract]; omega) (by rw [L_extract]; exact d2)).mono fun e w2 h => (⟨h.1, h.2.symm⟩ : _ ∧ w2 = w'))
  have N3 := Lib.hid (fun w' => (number5_any (s.extract 6 8) w' (by rw [ByteArray.size_extract]; omega) (by rw [L_extract]; exact d3)).mono fun e w2 h => (⟨h.1, h.2.symm⟩ : _ ∧ w2 = w'))
  rw [L_upto] at N1
  rw [L_extract] at N2 N3
  have b1 := valL_lt ((L s).take 2) 0 (fun c hc => List.all_eq_true.1 d1 c hc)
  have b2 := valL_lt (((L s).drop 3).take 2) 0 (fun c hc => List.all_eq_true.1 d2 c hc)
  have b3 := valL_lt (((L s).drop 6).take 2) 0 (fun c hc => List.all_eq_true.1 d3 c hc)
  rw [List.length_take, Nat.min_eq_left (by rw [L_len]; omega)] at b1
  rw [List.length_take, Nat.min_eq_left (by rw [List.length_drop, L_len]; omega)] at b2 b3
  have e10 : (10 : Nat) ^ 2 = 100 := rfl
  rw [e10] at b1 b2 b3
  have hN : hmsN (L s) = ((valL 0 ((L s).take 2) * 60 + valL 0 (((L s).drop 3).take 2)) * 60 + valL 0 (((L s).drop 6).take 2)) * 1000000000 := rfl
  have hI : hmsI (L s) = decide (valL 0 ((L s).take 2) ≤ 23 ∧ valL 0 (((L s).drop 3).take 2) ≤ 59 ∧ valL 0 (((L s).drop 6).take 2) ≤ 59) := rfl
  rw [hN, hI] at hr
  generalize valL 0 ((L s).take 2) = h at *
  generalize valL 0 (List.take (5 - 3) (List.drop 3 (L s))) = m at *
  generalize valL 0 (List.take (8 - 6) (List.drop 6 (L s))) = sc at *
  have hh : (h : Int) ≤ 99 := by omega
  have hmm : (m : Int) ≤ 99 := by omega
  have hsc : (sc : Int) ≤ 99 := by omega
  obtain ⟨s8, hs8⟩ : ∃ s8, s8 = s.extract 8 s.size := ⟨_, rfl⟩
  have hl8 : L s8 = (L s).drop 8 := by rw [hs8, L_from]
  have hz8 : s8.size = s.size - 8 := by rw [← L_len, hl8, List.length_drop, L_len]
  have hl9 : (L s).drop 9 = (L s8).drop 1 := by rw [hl8, List.drop_drop]
  rw [hl9, ← hl8] at hr
  have h8m : s8.size ≤ maxLen := by omega
  have h8k : s8.size ≤ 1000000000 := by omega
  have HS8 := Lib.hid hs8
  have HL8 := Lib.hid hl8
  have HR := Lib.hid hr
  have h8i : (8 : Int) ≤ (s.size : Int) := by omega
  clear hr hlk d1 d2 d3 b1 b2 b3 hN hI e10 hs8 hl9 hl8 hz8
  go_enter Tryz.func103, Tryz.ntmps103
  go_wp2_with (go_at_call 102; refine (HLK.out _).mono ?_; rintro e w1 ⟨rfl, hb1⟩; have HB1 := Lib.hid hb1; clear hb1)
  go_quiet (first
    | (go_at_call 105; with_reducible exact Calls.quiet_of_same (N1.out _))
    | (go_at_call 105; with_reducible exact Calls.quiet_of_same (N2.out _))
    | (go_at_call 105; with_reducible exact Calls.quiet_of_same (N3.out _)))
  generalize hWD : World.drewN _ _ = w3
  have HB3 : Hid (Below w.heap.size w w3) := by unfold Hid; rw [← hWD]; exact HB1.out.trans (drewN_below _ _ _)
  clear hWD HB1 N1 N2 N3 HLK
  go_upto_region 4 with fail
  go_cut [0] (fun v wx => v = .string s8 ∧ w3 = wx)
  case first =>
    go_wp2_with fail
    go_meet
    exact ⟨congrArg Value.string HS8.out.symm, rfl⟩
  case rest =>
  obtain ⟨hv, rfl⟩ := hcut
  subst hv
  clear HS8 h8i
  by_cases h46 : (L s8).head? = some 46
  case neg =>
    have HF : Hid (r = (((h * 60 + m) * 60 + sc) * 1000000000, L s8, true, decide (h ≤ 23 ∧ m ≤ 59 ∧ sc ≤ 59))) := by unfold Hid; rw [HR.out, if_neg h46]
    clear HR HL8
    by_cases he : L s8 = []
    · have h0 : s8 = ⟨#[]⟩ := L_inj he
      subst h0
      clear h46 he
      go_upto_region 14 with fail
      go_cut [2, 3, 4, 5] (fun a b c d wx => a = .int .i64 ((((h * 60 + m) * 60 + sc) * 1000000000 : Nat) : Int) ∧ b = .string (⟨#[]⟩) ∧ c = .bool true ∧ d = .bool (decide (h ≤ 23 ∧ m ≤ 59 ∧ sc ≤ 59)) ∧ w3 = wx)
      case first =>
        go_wp2_with fail
        all_goals
          go_meet
          refine ⟨congrArg (Value.int .i64) (by omega), rfl, rfl, congrArg Value.bool ?_, rfl⟩
          rw [Bool.eq_iff_iff]
          simp at *
          omega
      case rest =>
      obtain ⟨rfl, rfl, rfl, rfl, rfl⟩ := hcut
      go_wp2_with fail
      refine bodyPost_ret (v := .tuple #[.int .i64 ((((h * 60 + m) * 60 + sc) * 1000000000 : Nat) : Int), .string (⟨#[]⟩), .bool true, .bool (decide (h ≤ 23 ∧ m ≤ 59 ∧ sc ≤ 59))]) (by simp [results, Tryz.results103, go_sem]) rfl ⟨?_, HB3.out⟩
      exact tcPost (l := L ⟨#[]⟩) HF.out
    · have hp := size_pos he
      have g0 : ((0 : Int) < (s8.size : Int)) = True := eq_true (by omega)
      have g46 := beqNB s8[0] 46 (by
        intro h9
        apply h46
        have h8 := L_drop s8 0 hp
        rw [List.drop_zero] at h8
        have h10 : s8[0].toNat = 46 := by omega
        rw [h8, List.head?_cons, UInt8.toNat_inj.1 (show s8[0].toNat = (46 : UInt8).toNat from h10)])
      clear h46 he
      go_upto_region 14 with fail
      go_cut [2, 3, 4, 5] (fun a b c d wx => a = .int .i64 ((((h * 60 + m) * 60 + sc) * 1000000000 : Nat) : Int) ∧ b = .string (s8) ∧ c = .bool true ∧ d = .bool (decide (h ≤ 23 ∧ m ≤ 59 ∧ sc ≤ 59)) ∧ w3 = wx)
      case first =>
        go_wp2_with fail
        all_goals
          go_meet
          refine ⟨congrArg (Value.int .i64) (by omega), rfl, rfl, congrArg Value.bool ?_, rfl⟩
          rw [Bool.eq_iff_iff]
          simp at *
          omega
      case rest =>
      obtain ⟨rfl, rfl, rfl, rfl, rfl⟩ := hcut
      go_wp2_with fail
      refine bodyPost_ret (v := .tuple #[.int .i64 ((((h * 60 + m) * 60 + sc) * 1000000000 : Nat) : Int), .string (s8), .bool true, .bool (decide (h ≤ 23 ∧ m ≤ 59 ∧ sc ≤ 59))]) (by simp [results, Tryz.results103, go_sem]) rfl ⟨?_, HB3.out⟩
      exact tcPost (l := L s8) HF.out
  have hp : 0 < s8.size := by
    rcases Nat.eq_zero_or_pos s8.size with h0 | h0
    · rw [List.eq_nil_of_length_eq_zero (show (L s8).length = 0 by rw [L_len]; exact h0)] at h46
      cases h46
    · exact h0
  have g0 : ((0 : Int) < (s8.size : Int)) = True := eq_true (by omega)
  have h9 : s8[0] = 46 := by
    have h8 := L_drop s8 0 hp
    rw [List.drop_zero] at h8
    rw [h8, List.head?_cons] at h46
    exact Option.some.inj h46
  have g46 := beqB s8[0] 46 (by rw [h9]; rfl)
  obtain ⟨k, hk⟩ : ∃ k, k = runL ((L s8).drop 1) := ⟨_, rfl⟩
  have hkl := runL_le ((L s8).drop 1)
  rw [List.length_drop, L_len, ← hk] at hkl
  have HR2 : Hid (r = if k < 1 ∨ 9 < k then noC else (((h * 60 + m) * 60 + sc) * 1000000000 + valL 0 ((((L s8).drop 1).take k ++ zer9).take 9), (L s8).drop (1 + k), true, decide (h ≤ 23 ∧ m ≤ 59 ∧ sc ≤ 59))) := by
    unfold Hid
    have e := HR.out
    rw [if_pos h46, ← hk] at e
    rw [e, HL8.out, List.drop_drop (i := 1 + k), show 8 + (1 + k) = 9 + k by omega]
  have HDG : Hid ((((L s8).drop 1).take k).all dig = true) := by unfold Hid; rw [hk]; exact run_dig _
  have HK0 : Hid (k = 0 + runL ((L s8).drop (1 + 0))) := by unfold Hid; rw [Nat.zero_add]; exact hk
  clear HR h46 h9 hk HL8
  go_wp2_with fail
  go_loopw [10] (fun nv wr => ∃ j : Nat, nv = .int .i64 ((1 + j : Nat) : Int) ∧ j ≤ k ∧ Hid (k = j + runL ((L s8).drop (1 + j))) ∧ w3 = wr) (fun nv _ => s8.size + 1 - (intOf nv).toNat)
  case atStart => exact ⟨0, rfl, Nat.zero_le _, HK0.out, rfl⟩
  case round =>
    clear HK0 g0 g46
    obtain ⟨j, rfl, hjk, HK, rfl⟩ := hrel
    have hj0 : (0 : Int) ≤ ((1 + j : Nat) : Int) := by omega
    by_cases hgo : j < k
    case pos =>
      have hlt : 1 + j < s8.size := by omega
      have hst := HK.out
      rw [runL_at s8 (1 + j) hlt] at hst
      have hdg : dig s8[1 + j] = true := by
        cases hd : dig s8[1 + j]
        · rw [hd, if_neg (by simp)] at hst
          omega
        · rfl
      have hd2 : 48 ≤ s8[1 + j].toNat ∧ s8[1 + j].toNat ≤ 57 := of_decide_eq_true hdg
      have g1 : (48 : Int) ≤ (s8[1 + j].toNat : Int) := by omega
      have g2 : (s8[1 + j].toNat : Int) ≤ 57 := by omega
      have HN : Hid (k = (j + 1) + runL ((L s8).drop (1 + (j + 1)))) := by
        unfold Hid
        rw [hdg, if_pos rfl] at hst
        rw [show 1 + (j + 1) = 1 + j + 1 by omega]
        omega
      clear hst hdg hd2 HK HR2 HDG
      go_wp2_with fail
      exact ⟨⟨j + 1, by go_num, by omega, HN.out, trivial⟩, by simp [intOf]; omega⟩
    obtain rfl : j = k := by omega
    have HR9 : Hid (∀ hlt : 1 + j < s8.size, ¬ (48 ≤ s8[1 + j].toNat ∧ s8[1 + j].toNat ≤ 57)) := by
      intro hlt h9
      have hst := HK.out
      rw [runL_at s8 (1 + j) hlt] at hst
      have hdg : dig s8[1 + j] = true := decide_eq_true h9
      rw [hdg, if_pos rfl] at hst
      omega
    clear HK hgo
    have HWAY : (((((1 + j : Nat) : Int) < (s8.size : Int)) = False) ∧ (((1 : Int) + (j : Int) < (s8.size : Int)) = False)) ∨ (∃ hlt : 1 + j < s8.size, ((48 : Int) ≤ (s8[1 + j].toNat : Int)) = False) ∨ (∃ hlt : 1 + j < s8.size, ((48 : Int) ≤ (s8[1 + j].toNat : Int)) = True ∧ ((s8[1 + j].toNat : Int) ≤ 57) = False) := by
      by_cases hlt : 1 + j < s8.size
      · have h9 := HR9.out hlt
        by_cases h48 : 48 ≤ s8[1 + j].toNat
        · exact .inr (.inr ⟨hlt, eq_true (by omega), eq_false (by omega)⟩)
        · exact .inr (.inl ⟨hlt, eq_false (by omega)⟩)
      · exact .inl ⟨eq_false (by omega), eq_false (by omega)⟩
    clear HR9
    rcases HWAY with ⟨gw1, gw2⟩ | ⟨gwl, gw1⟩ | ⟨gwl, gw1, gw2⟩
    all_goals
      try have gw0 : ((1 : Int) + (j : Int) < (s8.size : Int)) = True := eq_true (by omega)
      by_cases hbd : j < 1 ∨ 9 < j
      · have HF : Hid (r = (0, [], false, false)) := by unfold Hid; rw [HR2.out, if_pos hbd]; rfl
        by_cases h1 : j < 1
        all_goals
          first
            | have g1 : ((1 : Int) + (j : Int) < 2) = True := eq_true (by omega)
            | have g1 : ((1 : Int) + (j : Int) < 2) = False := eq_false (by omega)
              have g2 : ((10 : Int) < (1 : Int) + (j : Int)) = True := eq_true (by omega)
          clear h1 hbd HR2 HDG
          go_wp2_with fail
          refine bodyPost_ret (v := .tuple #[.int .i64 0, .string ⟨#[]⟩, .bool false, .bool false]) (by simp [results, Tryz.results103, go_sem]) rfl ⟨tcPost HF.out, HB3.out⟩
      have g1 : ((1 : Int) + (j : Int) < 2) = False := eq_false (by omega)
      have g2 : ((10 : Int) < (1 : Int) + (j : Int)) = False := eq_false (by omega)
      have hF := HR2.out
      rw [if_neg hbd] at hF
      obtain ⟨u, hu⟩ : ∃ u : ByteArray, u = (s8.extract 1 (1 + j) ++ ⟨#[48, 48, 48, 48, 48, 48, 48, 48, 48]⟩).extract 0 9 := ⟨_, rfl⟩
      have hlu : L u = (((L s8).drop 1).take j ++ zer9).take 9 := by
        rw [hu, L_upto, L_append, L_extract, Nat.add_sub_cancel_left]
        rfl
      have hua : (L u).all dig = true := by
        rw [hlu]
        refine List.all_eq_true.2 fun c hc => ?_
        rcases List.mem_append.1 (List.mem_of_mem_take hc) with h9 | h9
        · exact List.all_eq_true.1 HDG.out c h9
        · have hz : zer9.all dig = true := by decide
          exact List.all_eq_true.1 hz c h9
      have hus : u.size ≤ 9 := by
        rw [← L_len, hlu, List.length_take]
        omega
      have HNU := Lib.hid (fun w' => number5_any u w' hus hua)
      have hvb := valL_lt (L u) 0 (fun c hc => List.all_eq_true.1 hua c hc)
      have hvp : (10 : Nat) ^ (L u).length ≤ 10 ^ 9 := Nat.pow_le_pow_right (by decide) (by rw [L_len]; exact hus)
      have hv9 : (10 : Nat) ^ 9 = 1000000000 := by decide
      rw [← hlu] at hF
      generalize valL 0 (L u) = fv at *
      have hfv : (fv : Int) ≤ 1000000000 := by omega
      have hrl : L (s8.extract (1 + j) s8.size) = (L s8).drop (1 + j) := L_from _ _
      rw [← hrl] at hF
      have HF := Lib.hid hF
      rw [hu] at HNU
      have hez : (s8.extract 1 (1 + j)).size = j := by rw [ByteArray.size_extract]; omega
      have hcz : (s8.extract 1 (1 + j) ++ ⟨#[48, 48, 48, 48, 48, 48, 48, 48, 48]⟩ : ByteArray).size = j + 9 := by
        rw [← L_len, L_append, List.length_append, L_len, hez]
        rfl
      clear hF hlu hua hus hvb hvp hv9 hrl hu HR2 HDG hbd hez
      go_upto_region 14 with (go_at_call 105; refine (HNU.out _).mono ?_; rintro e w' ⟨rfl, rfl⟩)
      go_cut [2, 3, 4, 5] (fun a b c d wx => a = .int .i64 ((((h * 60 + m) * 60 + sc) * 1000000000 + fv : Nat) : Int) ∧ b = .string (s8.extract (1 + j) s8.size) ∧ c = .bool true ∧ d = .bool (decide (h ≤ 23 ∧ m ≤ 59 ∧ sc ≤ 59)) ∧ w3 = wx)
      case first =>
        go_wp2_with fail
        all_goals
          go_meet
          refine ⟨congrArg (Value.int .i64) (by omega), rfl, rfl, congrArg Value.bool ?_, rfl⟩
          rw [Bool.eq_iff_iff]
          simp at *
          omega
      case rest =>
      obtain ⟨rfl, rfl, rfl, rfl, rfl⟩ := hcut
      go_wp2_with fail
      refine bodyPost_ret (v := .tuple #[.int .i64 ((((h * 60 + m) * 60 + sc) * 1000000000 + fv : Nat) : Int), .string (s8.extract (1 + j) s8.size), .bool true, .bool (decide (h ≤ 23 ∧ m ≤ 59 ∧ sc ≤ 59))]) (by simp [results, Tryz.results103, go_sem]) rfl ⟨?_, HB3.out⟩
      exact tcPost (l := L (s8.extract (1 + j) s8.size)) HF.out
end Go.Proofs.YtgddhkanfcpipaaGreatDoor

namespace Go.Proofs.YtgddhkanfcpipaaGreatDoor
open Go.RowKit
set_option maxHeartbeats 2000000
set_option maxRecDepth 100000

abbrev plusF : ByteArray := ⟨#[43, 100, 100, 58, 100, 100]⟩
abbrev minF : ByteArray := ⟨#[45, 100, 100, 58, 100, 100]⟩
/-- What takeOffset hands back. -/
def toR (l : List UInt8) : Int × Bool × Bool :=
  if l = [90] ∨ l = [122] then (0, true, true)
  else if l.length ≠ 6 ∨ (likeB l (L plusF) = false ∧ likeB l (L minF) = false) then (0, false, false)
  else (if l.head? = some 45 then -((valL 0 ((l.drop 1).take 2) * 60 + valL 0 ((l.drop 4).take 2) : Nat) : Int) else ((valL 0 ((l.drop 1).take 2) * 60 + valL 0 ((l.drop 4).take 2) : Nat) : Int), true, decide (valL 0 ((l.drop 1).take 2) ≤ 23 ∧ valL 0 ((l.drop 4).take 2) ≤ 59))
theorem off_digs (l : List UInt8) (c : UInt8) (hc : c.toNat ≠ 100) (h : likeB l [c, 100, 100, 58, 100, 100] = true) : l.head? = some c ∧ ((l.drop 1).take 2).all dig = true ∧ l[3]? = some 58 ∧ ((l.drop 4).take 2).all dig = true := by
  have hl6 : 6 ≤ l.length := likeB_len _ _ h
  obtain ⟨a0, a1, a2, a3, a4, a5, t, rfl⟩ : ∃ a0 a1 a2 a3 a4 a5 t, l = a0 :: a1 :: a2 :: a3 :: a4 :: a5 :: t := by
    match l, hl6 with
    | a0 :: a1 :: a2 :: a3 :: a4 :: a5 :: t, _ => exact ⟨a0, a1, a2, a3, a4, a5, t, rfl⟩
  simp [likeB, hc] at h
  obtain ⟨h0, h1, h2, h3, h4, h5⟩ := h
  have e0 : a0 = c := UInt8.toNat_inj.1 h0
  have e3 : a3 = 58 := UInt8.toNat_inj.1 h3
  refine ⟨by rw [e0]; rfl, ?_, ?_, ?_⟩
  · simp [h1, h2]
  · rw [e3]; rfl
  · simp [h4, h5]
theorem toPost {x : Int × Bool × Bool} {n : Int} {a b : Bool} (h : x = (n, a, b)) : Ending.returned (.tuple #[.int .i64 n, .bool a, .bool b]) = Ending.returned (.tuple #[.int .i64 x.1, .bool x.2.1, .bool x.2.2]) := by rw [h]
theorem takeOffset_any (s : ByteArray) (w : World) (hs : s.size ≤ 1000000000) :
    Calls Tryz.prog 106 #[.string s] w fun e w' => e = .returned (.tuple #[.int .i64 (toR (L s)).1, .bool (toR (L s)).2.1, .bool (toR (L s)).2.2]) ∧ Below w.heap.size w w' := by
  have hm : s.size ≤ maxLen := by simp only [maxLen]; omega
  obtain ⟨r, hr⟩ : ∃ r, r = toR (L s) := ⟨_, rfl⟩
  rw [← hr]
  unfold toR at hr
  by_cases hz : L s = [90] ∨ L s = [122]
  · have HF : Hid (r = (0, true, true)) := by unfold Hid; rw [hr, if_pos hz]
    rcases hz with h | h
    all_goals
      have h1 := L_inj (t := ⟨_⟩) h
      subst h1
      clear hr h hs hm
      go_enter Tryz.func106, Tryz.ntmps106
      go_wp2_with fail
      exact bodyPost_ret (v := .tuple #[.int .i64 0, .bool true, .bool true]) (by simp [results, Tryz.results106, go_sem]) rfl ⟨toPost HF.out, Below.refl _ _⟩
  have n1 : (s.toList == [90]) = false := by rw [toList_L]; exact beq_false (fun h => hz (.inl h))
  have n2 : (s.toList == [122]) = false := by rw [toList_L]; exact beq_false (fun h => hz (.inr h))
  rw [if_neg hz] at hr
  clear hz
  have HP := Lib.hid (fun w' => like_any s plusF w' hs (by decide))
  have HM := Lib.hid (fun w' => like_any s minF w' hs (by decide))
  by_cases h6 : s.size = 6
  case neg =>
    have HF : Hid (r = (0, false, false)) := by unfold Hid; rw [hr, if_pos (.inl (by rw [L_len]; exact h6))]
    have g6 : ((s.size : Int) != 6) = true := by rw [bne_iff_ne]; omega
    clear hr h6
    go_enter Tryz.func106, Tryz.ntmps106
    go_wp2_with fail
    exact bodyPost_ret (v := .tuple #[.int .i64 0, .bool false, .bool false]) (by simp [results, Tryz.results106, go_sem]) rfl ⟨toPost HF.out, Below.refl _ _⟩
  have g6 : ((s.size : Int) != 6) = false := by rw [bne_eq_false_iff_eq]; omega
  have hlr : likeB (L s) (L plusF) = false ∧ likeB (L s) (L minF) = false ∨ (∃ c : UInt8, (L s).head? = some c ∧ (c = 43 ∧ likeB (L s) (L plusF) = true ∨ c = 45 ∧ likeB (L s) (L plusF) = false ∧ likeB (L s) (L minF) = true) ∧ (((L s).drop 1).take 2).all dig = true ∧ (((L s).drop 4).take 2).all dig = true) := by
    cases hp : likeB (L s) (L plusF)
    · cases hmi : likeB (L s) (L minF)
      · exact .inl ⟨rfl, rfl⟩
      · obtain ⟨e1, e2, -, e3⟩ := off_digs _ 45 (by decide) hmi
        exact .inr ⟨45, e1, .inr ⟨rfl, rfl, rfl⟩, e2, e3⟩
    · obtain ⟨e1, e2, -, e3⟩ := off_digs _ 43 (by decide) hp
      exact .inr ⟨43, e1, .inl ⟨rfl, rfl⟩, e2, e3⟩
  rcases hlr with ⟨e1, e2⟩ | ⟨c, hc, hcc, d1, d2⟩
  · have HF : Hid (r = (0, false, false)) := by unfold Hid; rw [hr, if_pos (.inr ⟨e1, e2⟩)]
    rw [e1] at HP
    rw [e2] at HM
    clear hr e1 e2 h6
    go_enter Tryz.func106, Tryz.ntmps106
    go_wp2_with fail
    refine (HP.out _).mono ?_
    rintro e w1 ⟨rfl, hb1⟩
    have HB1 := Lib.hid hb1
    clear hb1
    go_wp2_with fail
    refine (HM.out _).mono ?_
    rintro e w2 ⟨rfl, hb2⟩
    have HB2 := Lib.hid (HB1.out.trans (hb2.mono HB1.out.size))
    clear hb2
    go_wp2_with fail
    exact bodyPost_ret (v := .tuple #[.int .i64 0, .bool false, .bool false]) (by simp [results, Tryz.results106, go_sem]) rfl ⟨toPost HF.out, HB2.out⟩
  have hr2 : r = (if c = 45 then -((valL 0 (((L s).drop 1).take 2) * 60 + valL 0 (((L s).drop 4).take 2) : Nat) : Int) else ((valL 0 (((L s).drop 1).take 2) * 60 + valL 0 (((L s).drop 4).take 2) : Nat) : Int), true, decide (valL 0 (((L s).drop 1).take 2) ≤ 23 ∧ valL 0 (((L s).drop 4).take 2) ≤ 59)) := by
    rw [hr, if_neg, hc]
    · simp only [Option.some.injEq]
    · rw [L_len]
      rcases hcc with ⟨-, h⟩ | ⟨-, -, h⟩
      · rw [h]; simp [h6]
      · rw [h]; simp [h6]
  clear hr
  have N1 := Lib.hid (fun w' => (number5_any (s.extract 1 3) w' (by rw [ByteArray.size_extract]; omega) (by rw [L_extract]; exact d1)).mono fun e w2 h => (⟨h.1, h.2.symm⟩ : _ ∧ w2 = w'))
  have N2 := Lib.hid (fun w' => (number5_any (s.extract 4 6) w' (by rw [ByteArray.size_extract]; omega) (by rw [L_extract]; exact d2)).mono fun e w2 h => (⟨h.1, h.2.symm⟩ : _ ∧ w2 = w'))
  rw [L_extract] at N1 N2
  have b1 := valL_lt (((L s).drop 1).take 2) 0 (fun x hx => List.all_eq_true.1 d1 x hx)
  have b2 := valL_lt (((L s).drop 4).take 2) 0 (fun x hx => List.all_eq_true.1 d2 x hx)
  rw [List.length_take, Nat.min_eq_left (by rw [List.length_drop, L_len]; omega)] at b1 b2
  have e10 : (10 : Nat) ^ 2 = 100 := rfl
  rw [e10] at b1 b2
  generalize valL 0 (List.take (3 - 1) (List.drop 1 (L s))) = h at *
  generalize valL 0 (List.take (6 - 4) (List.drop 4 (L s))) = m at *
  have hh : (h : Int) ≤ 99 := by omega
  have hmm : (m : Int) ≤ 99 := by omega
  have hp : 0 < s.size := by omega
  have hs0 : s[0] = c := by
    have h8 := L_drop s 0 hp
    rw [List.drop_zero] at h8
    rw [h8, List.head?_cons] at hc
    exact Option.some.inj hc
  have hs6 : (6 : Int) ≤ (s.size : Int) := by omega
  clear d1 d2 b1 b2 e10 hc
  rcases hcc with ⟨rfl, e1⟩ | ⟨rfl, e1, e2⟩
  · rw [e1] at HP
    have g45 := beqNB s[0] 45 (by rw [hs0]; decide)
    have HF : Hid (r = (((h * 60 + m : Nat) : Int), true, decide (h ≤ 23 ∧ m ≤ 59))) := by unfold Hid; rw [hr2, if_neg (by decide)]
    clear hr2 hs0 e1 HM h6
    go_enter Tryz.func106, Tryz.ntmps106
    go_wp2_with fail
    refine (HP.out _).mono ?_
    rintro e w1 ⟨rfl, hb1⟩
    have HB1 := Lib.hid hb1
    clear hb1 HP
    go_wp2_with fail
    go_quiet (first
      | (go_at_call 105; with_reducible exact Calls.quiet_of_same (N1.out _))
      | (go_at_call 105; with_reducible exact Calls.quiet_of_same (N2.out _)))
    generalize hWD : World.drewN _ _ = w3
    have HB3 : Hid (Below w.heap.size w w3) := by unfold Hid; rw [← hWD]; exact HB1.out.trans (drewN_below _ _ _)
    clear hWD HB1 N1 N2
    go_upto_region 9 with fail
    go_cut [2, 3, 4] (fun a b d wx => a = .int .i64 ((h * 60 + m : Nat) : Int) ∧ b = .bool true ∧ d = .bool (decide (h ≤ 23 ∧ m ≤ 59)) ∧ w3 = wx)
    case first =>
      go_wp2_with fail
      all_goals
        go_meet
        refine ⟨congrArg (Value.int .i64) (by omega), rfl, congrArg Value.bool ?_, rfl⟩
        rw [Bool.eq_iff_iff]
        simp at *
        omega
    case rest =>
    obtain ⟨rfl, rfl, rfl, rfl⟩ := hcut
    go_wp2_with fail
    exact bodyPost_ret (v := .tuple #[.int .i64 ((h * 60 + m : Nat) : Int), .bool true, .bool (decide (h ≤ 23 ∧ m ≤ 59))]) (by simp [results, Tryz.results106, go_sem]) rfl ⟨toPost HF.out, HB3.out⟩
  · rw [e1] at HP
    rw [e2] at HM
    have g45 := beqB s[0] 45 (by rw [hs0]; rfl)
    have HF : Hid (r = (-((h * 60 + m : Nat) : Int), true, decide (h ≤ 23 ∧ m ≤ 59))) := by unfold Hid; rw [hr2, if_pos rfl]
    clear hr2 hs0 e1 e2 h6
    go_enter Tryz.func106, Tryz.ntmps106
    go_wp2_with fail
    refine (HP.out _).mono ?_
    rintro e w1 ⟨rfl, hb1⟩
    have HB1 := Lib.hid hb1
    clear hb1 HP
    go_wp2_with fail
    refine (HM.out _).mono ?_
    rintro e w2 ⟨rfl, hb2⟩
    have HB2 := Lib.hid (HB1.out.trans (hb2.mono HB1.out.size))
    clear hb2 HM HB1
    go_wp2_with fail
    go_quiet (first
      | (go_at_call 105; with_reducible exact Calls.quiet_of_same (N1.out _))
      | (go_at_call 105; with_reducible exact Calls.quiet_of_same (N2.out _)))
    generalize hWD : World.drewN _ _ = w3
    have HB3 : Hid (Below w.heap.size w w3) := by unfold Hid; rw [← hWD]; exact HB2.out.trans (drewN_below _ _ _)
    clear hWD HB2 N1 N2
    go_upto_region 9 with fail
    go_cut [2, 3, 4] (fun a b d wx => a = .int .i64 (-((h * 60 + m : Nat) : Int)) ∧ b = .bool true ∧ d = .bool (decide (h ≤ 23 ∧ m ≤ 59)) ∧ w3 = wx)
    case first =>
      go_wp2_with fail
      all_goals
        go_meet
        refine ⟨congrArg (Value.int .i64) (by omega), rfl, congrArg Value.bool ?_, rfl⟩
        rw [Bool.eq_iff_iff]
        simp at *
        omega
    case rest =>
    obtain ⟨rfl, rfl, rfl, rfl⟩ := hcut
    go_wp2_with fail
    exact bodyPost_ret (v := .tuple #[.int .i64 (-((h * 60 + m : Nat) : Int)), .bool true, .bool (decide (h ≤ 23 ∧ m ≤ 59))]) (by simp [results, Tryz.results106, go_sem]) rfl ⟨toPost HF.out, HB3.out⟩
end Go.Proofs.YtgddhkanfcpipaaGreatDoor

namespace Go.Proofs.YtgddhkanfcpipaaGreatDoor
open Go.RowKit
set_option maxHeartbeats 1000000
set_option maxRecDepth 100000

theorem ret_bl {a b : Bool} (h : a = b) : Ending.returned (.bool a) = Ending.returned (.bool b) := by rw [h]
theorem valid4_any (y : Nat) (w : World) (hy : y ≤ 100000) :
    Calls Tryz.prog 199 #[.int .i64 (y : Int)] w fun e w' => e = .returned (.bool (decide (1 ≤ y ∧ y ≤ 9999))) ∧ w = w' := by
  by_cases h : 1 ≤ y ∧ y ≤ 9999
  · have h1 : (1 : Int) ≤ (y : Int) := by omega
    have h2 : (y : Int) ≤ 9999 := by omega
    rw [decide_eq_true h]
    clear h
    go_enter Tryz.func199, Tryz.ntmps199
    go_wp2_with fail
    go_ret
    exact ⟨rfl, rfl⟩
  · rw [decide_eq_false h]
    by_cases h1 : 1 ≤ y
    · have g1 : ((1 : Int) ≤ (y : Int)) = True := eq_true (by omega)
      have g2 : ((y : Int) ≤ 9999) = False := eq_false (by omega)
      clear h h1
      go_enter Tryz.func199, Tryz.ntmps199
      go_wp2_with fail
      go_ret
      exact ⟨rfl, rfl⟩
    · obtain rfl : y = 0 := by omega
      clear h h1
      go_enter Tryz.func199, Tryz.ntmps199
      go_wp2_with fail
      go_ret
      exact ⟨rfl, rfl⟩
def leapB (y : Nat) : Bool := decide (1 ≤ y ∧ y ≤ 9999) && (decide (y % 4 = 0) && (!decide (y % 100 = 0) || decide (y % 400 = 0)))
theorem Leap_any (y : Nat) (w : World) (hy : y ≤ 100000) :
    Calls Tryz.prog 200 #[.int .i64 (y : Int)] w fun e w' => e = .returned (.bool (leapB y)) ∧ w = w' := by
  have HV := Lib.hid (fun w' => valid4_any y w' hy)
  unfold leapB
  cases hv : decide (1 ≤ y ∧ y ≤ 9999)
  case false =>
    rw [hv] at HV
    clear hv
    go_enter Tryz.func200, Tryz.ntmps200
    go_wp2_with (go_at_call 199; refine (HV.out _).mono ?_; rintro e w' ⟨rfl, rfl⟩)
    go_ret
    exact ⟨rfl, rfl⟩
  rw [hv] at HV
  clear hv
  go_enter Tryz.func200, Tryz.ntmps200
  go_wp2_with (go_at_call 199; refine (HV.out _).mono ?_; rintro e w' ⟨rfl, rfl⟩)
  all_goals
    go_ret
    refine ⟨ret_bl ?_, rfl⟩
    rw [Bool.eq_iff_iff]
    simp at *
    omega
/-- The days of a month. -/
def monC (y m : Nat) : Nat :=
  if decide (1 ≤ y ∧ y ≤ 9999) = false then 0
  else match m with
    | 1 => 31 | 2 => if leapB y then 29 else 28 | 3 => 31 | 4 => 30 | 5 => 31 | 6 => 30 | 7 => 31 | 8 => 31 | 9 => 30 | 10 => 31 | 11 => 30 | 12 => 31
    | _ => 0
theorem monC_le (y m : Nat) : monC y m ≤ 31 := by
  unfold monC
  split
  · omega
  · split
    all_goals first | omega | (split <;> omega)
theorem mon_cases (m : Nat) : m = 1 ∨ m = 2 ∨ m = 3 ∨ m = 4 ∨ m = 5 ∨ m = 6 ∨ m = 7 ∨ m = 8 ∨ m = 9 ∨ m = 10 ∨ m = 11 ∨ m = 12 ∨ m = 0 ∨ 12 < m := by omega
theorem Month_any (y m : Nat) (w : World) (hy : y ≤ 100000) (_hm : m ≤ 100000) :
    Calls Tryz.prog 153 #[.int .i64 (y : Int), .int .i64 (m : Int)] w fun e w' => e = .returned (.int .i64 (monC y m : Nat)) ∧ Below w.heap.size w w' := by
  have HV := Lib.hid (fun w' => valid4_any y w' hy)
  have HL := Lib.hid (fun w' => Leap_any y w' hy)
  have HB : Hid (∀ X, Below w.heap.size w (w.alloc X)) := fun X => (Below.refl _ _).alloc (Nat.le_refl _) _
  have HR := Lib.hid (Below.refl w.heap.size w)
  obtain ⟨r, hr⟩ : ∃ r, r = monC y m := ⟨_, rfl⟩
  rw [← hr]
  unfold monC at hr
  generalize leapB y = lp at *
  cases hv : decide (1 ≤ y ∧ y ≤ 9999)
  case false =>
    rw [hv] at HV hr
    have HF : Hid (r = 0) := by unfold Hid; rw [hr, if_pos rfl]
    clear hv hr
    go_enter Tryz.func153, Tryz.ntmps153
    go_wp2_with (go_at_call 199; refine (HV.out _).mono ?_; rintro e w' ⟨rfl, rfl⟩)
    go_ret
    exact ⟨by rw [HF.out]; rfl, HR.out⟩
  rw [hv] at HV hr
  rw [if_neg (by simp)] at hr
  clear hv hy _hm
  rcases mon_cases m with rfl | rfl | rfl | rfl | rfl | rfl | rfl | rfl | rfl | rfl | rfl | rfl | rfl | h
  case inr.inl =>
    cases lp
    all_goals
      have HF : Hid (r = _) := hr
      clear hr
      go_enter Tryz.func153, Tryz.ntmps153
      go_wp2_with (first
        | (go_at_call 199; refine (HV.out _).mono ?_; rintro e w' ⟨rfl, rfl⟩)
        | (go_at_call 200; refine (HL.out _).mono ?_; rintro e w' ⟨rfl, rfl⟩))
      go_ret
      exact ⟨by rw [HF.out]; rfl, by first | exact HR.out | exact HB.out _⟩
  case inr.inr.inr.inr.inr.inr.inr.inr.inr.inr.inr.inr.inr =>
    have HF : Hid (r = 0) := by
      unfold Hid
      rw [hr]
      split <;> first | omega | rfl
    have g1 : ((12 : Int) < (m : Int)) = True := eq_true (by omega)
    have g2 : ((m : Int) < 1) = False := eq_false (by omega)
    clear hr h
    go_enter Tryz.func153, Tryz.ntmps153
    go_wp2_with (go_at_call 199; refine (HV.out _).mono ?_; rintro e w' ⟨rfl, rfl⟩)
    go_ret
    exact ⟨by rw [HF.out]; rfl, HR.out⟩
  all_goals
    have HF : Hid (r = _) := hr
    clear hr
    go_enter Tryz.func153, Tryz.ntmps153
    go_wp2_with (first
      | (go_at_call 199; refine (HV.out _).mono ?_; rintro e w' ⟨rfl, rfl⟩)
      | (go_at_call 200; refine (HL.out _).mono ?_; rintro e w' ⟨rfl, rfl⟩))
    go_ret
    exact ⟨by rw [HF.out]; rfl, by first | exact HR.out | exact HB.out _⟩
def startC (y : Nat) : Nat := 365 * (y - 1) + (y - 1) / 4 - (y - 1) / 100 + (y - 1) / 400
theorem start_any (y : Nat) (w : World) (h1 : 1 ≤ y) (hy : y ≤ 9999) :
    Calls Tryz.prog 154 #[.int .i64 (y : Int)] w fun e w' => e = .returned (.int .i64 (startC y : Nat)) ∧ w = w' := by
  have g1 : (1 : Int) ≤ (y : Int) := by omega
  have g2 : (y : Int) ≤ 9999 := by omega
  have HF : Hid ((365 * ((y : Int) - 1) + ((y : Int) - 1) / 4 - ((y : Int) - 1) / 100 + ((y : Int) - 1) / 400) = (startC y : Nat)) := by
    unfold Hid startC
    omega
  clear h1 hy
  go_enter Tryz.func154, Tryz.ntmps154
  go_wp2_with fail
  go_ret
  refine ⟨?_, rfl⟩
  rw [← HF.out]

  rfl
end Go.Proofs.YtgddhkanfcpipaaGreatDoor

namespace Go.Proofs.YtgddhkanfcpipaaGreatDoor
open Go.RowKit
set_option maxHeartbeats 1000000
set_option maxRecDepth 100000

/-- The days of the first k months. -/
def sumM (y : Nat) : Nat → Nat
  | 0 => 0
  | k + 1 => sumM y k + monC y (k + 1)
theorem sumM_le (y : Nat) : ∀ k, sumM y k ≤ 31 * k
  | 0 => Nat.le_refl _
  | k + 1 => by
    have h1 := sumM_le y k
    have h2 := monC_le y (k + 1)
    rw [sumM]
    omega
def dayC (y m d : Nat) : Nat × Nat := if d < 1 ∨ monC y m < d then (0, 2) else (startC y + d - 1 + sumM y (m - 1), 0)
theorem monC_pos {y m : Nat} (h : 0 < monC y m) : (1 ≤ y ∧ y ≤ 9999) ∧ 1 ≤ m ∧ m ≤ 12 := by
  unfold monC at h
  split at h
  · omega
  · rename_i hv
    have hv' : 1 ≤ y ∧ y ≤ 9999 := by
      cases hd : decide (1 ≤ y ∧ y ≤ 9999)
      · exact absurd hd hv
      · exact of_decide_eq_true hd
    refine ⟨hv', ?_⟩
    split at h
    all_goals first | omega | exact ⟨by decide, by decide⟩
theorem startC_le (y : Nat) (h : y ≤ 9999) : startC y ≤ 4000000 := by unfold startC; omega
theorem rii2 {a b : Nat} {x : Nat × Nat} (h : x = (a, b)) : Ending.returned (.tuple #[.int .i64 (a : Nat), .int .i64 (b : Nat)]) = Ending.returned (.tuple #[.int .i64 (x.1 : Nat), .int .i64 (x.2 : Nat)]) := by rw [h]
theorem Day_any (y m d : Nat) (w : World) (hy : y ≤ 9999) (hm : m ≤ 99999) (hd : d ≤ 99999) :
    Calls Tryz.prog 90 #[.int .i64 (y : Int), .int .i64 (m : Int), .int .i64 (d : Int)] w fun e w' => e = .returned (.tuple #[.int .i64 ((dayC y m d).1 : Nat), .int .i64 ((dayC y m d).2 : Nat)]) ∧ Below w.heap.size w w' := by
  have HM := Lib.hid (fun k w' hk => Month_any y k w' (by omega) hk)
  obtain ⟨r, hr⟩ : ∃ r, r = dayC y m d := ⟨_, rfl⟩
  rw [← hr]
  unfold dayC at hr
  have hml := monC_le y m
  by_cases h1 : d < 1
  · obtain rfl : d = 0 := by omega
    have HF : Hid (r = (0, 2)) := by unfold Hid; rw [hr, if_pos (.inl h1)]
    clear hr h1
    go_enter Tryz.func90, Tryz.ntmps90
    go_wp2_with fail
    go_ret2
    exact ⟨rii2 HF.out, Below.refl _ _⟩
  have g1 : ((d : Int) < 1) = False := eq_false (by omega)
  have HMM := Lib.hid (fun w' => HM.out m w' (by omega))
  by_cases h2 : monC y m < d
  · have HF : Hid (r = (0, 2)) := by unfold Hid; rw [hr, if_pos (.inr h2)]
    have g2 : ((monC y m : Nat) : Int) < (d : Int) := by omega
    clear hr h1
    go_enter Tryz.func90, Tryz.ntmps90
    go_wp2_with (go_at_call 153; refine (HMM.out _).mono ?_; rintro e w1 ⟨rfl, hb1⟩; have HB1 := Lib.hid hb1; clear hb1)
    go_ret2
    exact ⟨rii2 HF.out, HB1.out⟩
  have g2 : (((monC y m : Nat) : Int) < (d : Int)) = False := eq_false (by omega)
  obtain ⟨⟨hy1, hy2⟩, hm1, hm2⟩ := monC_pos (y := y) (m := m) (by omega)
  have HS := Lib.hid (fun w' => start_any y w' hy1 hy2)
  have HF : Hid (r = (startC y + d - 1 + sumM y (m - 1), 0)) := by unfold Hid; rw [hr, if_neg (by omega)]
  have hsl := startC_le y hy2
  have hsm := fun k => sumM_le y k
  have HSM := Lib.hid hsm
  have hd1 : (1 : Int) ≤ (d : Int) := by omega
  clear hr h1 h2 hsm
  generalize startC y = sc at *
  go_enter Tryz.func90, Tryz.ntmps90
  go_wp2_with (first
    | (go_at_call 153; refine (HMM.out _).mono ?_; rintro e w1 ⟨rfl, hb1⟩; have HB1 := Lib.hid hb1; clear hb1)
    | (go_at_call 154; refine (HS.out _).mono ?_; rintro e w' ⟨rfl, rfl⟩))
  have HX : Hid ((sc : Int) + (d : Int) - 1 = ((sc + d - 1 : Nat) : Int)) := by unfold Hid; omega
  clear g2 HMM
  go_loopw [8, 9] (fun nv iv wr => ∃ k : Nat, iv = .int .i64 (k : Int) ∧ 1 ≤ k ∧ k ≤ m ∧ nv = .int .i64 ((sc + d - 1 + sumM y (k - 1) : Nat) : Int) ∧ Hid (Below w.heap.size w wr)) (fun _ iv _ => m - (intOf iv).toNat)
  case atStart => exact ⟨1, rfl, Nat.le_refl _, hm1, congrArg (Value.int .i64) (by have := HX.out; show _ = ((sc + d - 1 + 0 : Nat) : Int); omega), HB1.out⟩
  case round =>
    obtain ⟨k, rfl, hk1, hkm, rfl, HBW⟩ := hrel
    have hk0 : (0 : Int) ≤ (k : Int) := by omega
    by_cases hlt : k < m
    case neg =>
      obtain rfl : k = m := by omega
      clear HX
      go_wp2_with fail
      go_ret2
      exact ⟨rii2 HF.out, HBW.out⟩
    have gk : (k : Int) < (m : Int) := by omega
    have HMK := Lib.hid (fun w' => HM.out k w' (by omega))
    have hsk := HSM.out (k - 1)
    have hmk := monC_le y k
    have HST : Hid (sumM y (k - 1) + monC y k = sumM y (k + 1 - 1)) := by
      unfold Hid
      obtain ⟨j, rfl⟩ : ∃ j, k = j + 1 := ⟨k - 1, by omega⟩
      rfl
    generalize monC y k = mk at *
    generalize sumM y (k - 1) = sk at *
    obtain ⟨N, hN⟩ : ∃ N, N = sc + d - 1 + sk := ⟨_, rfl⟩
    have hNb : (N : Int) ≤ 100000000 := by omega
    rw [← hN]
    have HNN := Lib.hid hN
    clear hN hsk HX
    go_wp2_with (go_at_call 153; refine (HMK.out _).mono ?_; rintro e w2 ⟨rfl, hb2⟩; have HB2 := Lib.hid (HBW.out.trans (hb2.mono HBW.out.size)); clear hb2)
    exact ⟨⟨k + 1, by go_num, by omega, by omega, congrArg (Value.int .i64) (by have h5 := HNN.out; have h6 := HST.out; omega), HB2.out⟩, by simp [intOf]; omega⟩
end Go.Proofs.YtgddhkanfcpipaaGreatDoor

namespace Go.Proofs.YtgddhkanfcpipaaGreatDoor
open Go.RowKit
set_option maxHeartbeats 2000000
set_option maxRecDepth 100000

theorem Leap4_any (y : Nat) (w : World) (hy : y ≤ 100000) :
    Calls Tryz.prog 204 #[.int .i64 (y : Int)] w fun e w' => e = .returned (.bool (leapB y)) ∧ w = w' := by
  unfold leapB
  go_enter Tryz.func204, Tryz.ntmps204
  go_wp2_with fail
  all_goals
    go_ret
    refine ⟨ret_bl ?_, rfl⟩
    rw [Bool.eq_iff_iff]
    simp at *
    omega
theorem Month4_any (y m : Nat) (w : World) (hy : y ≤ 100000) (_hm : m ≤ 100000) :
    Calls Tryz.prog 163 #[.int .i64 (y : Int), .int .i64 (m : Int)] w fun e w' => e = .returned (.int .i64 (monC y m : Nat)) ∧ w = w' := by
  have HL := Lib.hid (fun w' => Leap4_any y w' hy)
  obtain ⟨r, hr⟩ : ∃ r, r = monC y m := ⟨_, rfl⟩
  rw [← hr]
  unfold monC at hr
  generalize leapB y = lp at *
  by_cases hv : 1 ≤ y ∧ y ≤ 9999
  case neg =>
    have HF : Hid (r = 0) := by unfold Hid; rw [hr, if_pos (decide_eq_false hv)]
    by_cases h0 : y < 1
    all_goals
      first
        | have g1 : ((y : Int) < 1) = True := eq_true (by omega)
        | have g1 : ((y : Int) < 1) = False := eq_false (by omega)
          have g2 : ((9999 : Int) < (y : Int)) = True := eq_true (by omega)
      clear hr hv h0
      go_enter Tryz.func163, Tryz.ntmps163
      go_wp2_with fail
      go_ret
      exact ⟨by rw [HF.out]; rfl, rfl⟩
  have g1 : ((y : Int) < 1) = False := eq_false (by omega)
  have g2 : ((9999 : Int) < (y : Int)) = False := eq_false (by omega)
  rw [if_neg (by rw [decide_eq_true hv]; simp)] at hr
  clear hv hy _hm
  rcases mon_cases m with rfl | rfl | rfl | rfl | rfl | rfl | rfl | rfl | rfl | rfl | rfl | rfl | rfl | h
  case inr.inl =>
    cases lp
    all_goals
      have HF : Hid (r = _) := hr
      clear hr
      go_enter Tryz.func163, Tryz.ntmps163
      go_wp2_with (go_at_call 204; refine (HL.out _).mono ?_; rintro e w' ⟨rfl, rfl⟩)
      go_ret
      exact ⟨by rw [HF.out]; rfl, rfl⟩
  case inr.inr.inr.inr.inr.inr.inr.inr.inr.inr.inr.inr.inr =>
    have HF : Hid (r = 0) := by
      unfold Hid
      rw [hr]
      split <;> first | omega | rfl
    have q1 : ((m : Int) == 1) = false := by rw [beq_eq_false_iff_ne]; omega
    have q2 : ((m : Int) == 2) = false := by rw [beq_eq_false_iff_ne]; omega
    have q3 : ((m : Int) == 3) = false := by rw [beq_eq_false_iff_ne]; omega
    have q4 : ((m : Int) == 4) = false := by rw [beq_eq_false_iff_ne]; omega
    have q5 : ((m : Int) == 5) = false := by rw [beq_eq_false_iff_ne]; omega
    have q6 : ((m : Int) == 6) = false := by rw [beq_eq_false_iff_ne]; omega
    have q7 : ((m : Int) == 7) = false := by rw [beq_eq_false_iff_ne]; omega
    have q8 : ((m : Int) == 8) = false := by rw [beq_eq_false_iff_ne]; omega
    have q9 : ((m : Int) == 9) = false := by rw [beq_eq_false_iff_ne]; omega
    have q10 : ((m : Int) == 10) = false := by rw [beq_eq_false_iff_ne]; omega
    have q11 : ((m : Int) == 11) = false := by rw [beq_eq_false_iff_ne]; omega
    have q12 : ((m : Int) == 12) = false := by rw [beq_eq_false_iff_ne]; omega
    clear hr h
    go_enter Tryz.func163, Tryz.ntmps163
    go_wp2_with fail
    go_ret
    exact ⟨by rw [HF.out]; rfl, rfl⟩
  all_goals
    have HF : Hid (r = _) := hr
    clear hr
    go_enter Tryz.func163, Tryz.ntmps163
    go_wp2_with fail
    go_ret
    exact ⟨by rw [HF.out]; rfl, rfl⟩
theorem length4_any (y : Nat) (w : World) (hy : y ≤ 100000) :
    Calls Tryz.prog 192 #[.int .i64 (y : Int)] w fun e w' => e = .returned (.int .i64 (sumM y 12 : Nat)) ∧ w = w' := by
  have HM := Lib.hid (fun k w' hk => Month4_any y k w' hy hk)
  have HSM := Lib.hid (fun k => sumM_le y k)
  go_enter Tryz.func192, Tryz.ntmps192
  go_wp2_with fail
  go_loopw [3, 4] (fun nv iv wr => ∃ k : Nat, iv = .int .i64 ((k + 1 : Nat) : Int) ∧ k ≤ 12 ∧ nv = .int .i64 ((sumM y k : Nat) : Int) ∧ w = wr) (fun _ iv _ => 13 - (intOf iv).toNat)
  case atStart => exact ⟨0, rfl, by decide, rfl, rfl⟩
  case round =>
    obtain ⟨k, rfl, hk, rfl, rfl⟩ := hrel
    have hk0 : (0 : Int) ≤ (k : Int) := by omega
    by_cases hlt : k < 12
    case neg =>
      obtain rfl : k = 12 := by omega
      clear HM HSM
      go_wp2_with fail
      go_ret
      exact ⟨rfl, rfl⟩
    have gk : ((k : Int) + 1 ≤ 12) = True := eq_true (by omega)
    have HMK := Lib.hid (fun w' => HM.out (k + 1) w' (by omega))
    have hsk := HSM.out k
    have hmk := monC_le y (k + 1)
    have HST : Hid (sumM y k + monC y (k + 1) = sumM y (k + 1)) := rfl
    generalize monC y (k + 1) = mk at *
    generalize sumM y k = sk at *
    have hsb : (sk : Int) ≤ 1000 := by omega
    have hmb : (mk : Int) ≤ 1000 := by omega
    clear hsk hmk
    go_wp2_with (go_at_call 163; refine (HMK.out _).mono ?_; rintro e w' ⟨rfl, rfl⟩)
    exact ⟨⟨k + 1, by go_num, by omega, congrArg (Value.int .i64) (by have h6 := HST.out; omega), trivial⟩, by simp [intOf]; omega⟩
theorem ds4 (y : Nat) (h : 1 ≤ y) : y / 4 = (y - 1) / 4 + (if y % 4 = 0 then 1 else 0) := by split <;> omega
theorem ds100 (y : Nat) (h : 1 ≤ y) : y / 100 = (y - 1) / 100 + (if y % 100 = 0 then 1 else 0) := by split <;> omega
theorem ds400 (y : Nat) (h : 1 ≤ y) : y / 400 = (y - 1) / 400 + (if y % 400 = 0 then 1 else 0) := by split <;> omega
theorem sum12 (y : Nat) (h1 : 1 ≤ y) (h2 : y ≤ 9999) : sumM y 12 = if leapB y then 366 else 365 := by
  have hv : decide (1 ≤ y ∧ y ≤ 9999) = true := decide_eq_true ⟨h1, h2⟩
  have e : ∀ k, monC y k = (match k with
    | 1 => 31 | 2 => if leapB y then 29 else 28 | 3 => 31 | 4 => 30 | 5 => 31 | 6 => 30 | 7 => 31 | 8 => 31 | 9 => 30 | 10 => 31 | 11 => 30 | 12 => 31
    | _ => 0) := fun k => by unfold monC; exact if_neg (by rw [hv]; simp)
  have e1 : sumM y 12 = ((((((((((((0 + monC y 1) + monC y 2) + monC y 3) + monC y 4) + monC y 5) + monC y 6) + monC y 7) + monC y 8) + monC y 9) + monC y 10) + monC y 11) + monC y 12) := rfl
  rw [e1, e 1, e 2, e 3, e 4, e 5, e 6, e 7, e 8, e 9, e 10, e 11, e 12]
  cases leapB y <;> rfl
theorem len_year (y : Nat) (h1 : 1 ≤ y) (h2 : y ≤ 9999) : startC (y + 1) = startC y + sumM y 12 := by
  rw [sum12 y h1 h2]
  have hl : leapB y = (decide (y % 4 = 0) && (!decide (y % 100 = 0) || decide (y % 400 = 0))) := by
    unfold leapB
    rw [decide_eq_true (show 1 ≤ y ∧ y ≤ 9999 from ⟨h1, h2⟩), Bool.true_and]
  rw [hl]
  unfold startC
  rw [Nat.add_sub_cancel, ds4 y h1, ds100 y h1, ds400 y h1]
  have i1 : y % 100 = 0 → y % 4 = 0 := by omega
  have i2 : y % 400 = 0 → y % 100 = 0 := by omega
  have q : (y - 1) / 100 ≤ (y - 1) / 4 := by omega
  have hy : 365 * y = 365 * (y - 1) + 365 := by omega
  rw [hy]
  generalize (y - 1) / 4 = a at *
  generalize (y - 1) / 100 = b at *
  generalize (y - 1) / 400 = c at *
  generalize 365 * (y - 1) = n at *
  by_cases c4 : y % 4 = 0 <;> by_cases c100 : y % 100 = 0 <;> by_cases c400 : y % 400 = 0 <;> simp only [c4, c100, c400, if_true, if_false, decide_true, decide_false, Bool.not_true, Bool.not_false, Bool.and_true, Bool.and_false, Bool.or_true, Bool.or_false, Bool.false_eq_true] <;> first | omega | exact absurd (i1 c100) c4 | exact absurd (i2 c400) c100
theorem before_any (y : Nat) (w : World) (h1 : 1 ≤ y) (hy : y ≤ 9999) :
    Calls Tryz.prog 164 #[.int .i64 (y : Int)] w fun e w' => e = .returned (.int .i64 (startC y : Nat)) ∧ w = w' := by
  have HL := Lib.hid (fun k w' hk => length4_any k w' hk)
  go_enter Tryz.func164, Tryz.ntmps164
  go_wp2_with fail
  go_loopw [3, 4] (fun nv iv wr => ∃ k : Nat, iv = .int .i64 (k : Int) ∧ 1 ≤ k ∧ k ≤ y ∧ nv = .int .i64 ((startC k : Nat) : Int) ∧ w = wr) (fun _ iv _ => y - (intOf iv).toNat)
  case atStart => exact ⟨1, rfl, Nat.le_refl _, h1, rfl, rfl⟩
  case round =>
    obtain ⟨k, rfl, hk1, hky, rfl, rfl⟩ := hrel
    have hk0 : (0 : Int) ≤ (k : Int) := by omega
    by_cases hlt : k < y
    case neg =>
      obtain rfl : k = y := by omega
      clear HL
      go_wp2_with fail
      go_ret
      exact ⟨rfl, rfl⟩
    have gk : (k : Int) < (y : Int) := by omega
    have HLK := Lib.hid (fun w' => HL.out k w' (by omega))
    have hsk := startC_le k (by omega)
    have hmk := sumM_le k 12
    have HST := Lib.hid (len_year k hk1 (by omega))
    generalize sumM k 12 = mk at *
    generalize startC k = sk at *
    have hsb : (sk : Int) ≤ 4000000 := by omega
    have hmb : (mk : Int) ≤ 1000 := by omega
    clear hsk hmk
    go_wp2_with (go_at_call 192; refine (HLK.out _).mono ?_; rintro e w' ⟨rfl, rfl⟩)
    exact ⟨⟨k + 1, by go_num, by omega, by omega, congrArg (Value.int .i64) (by have h6 := HST.out; omega), trivial⟩, by simp [intOf]; omega⟩
theorem DayR_any (y m d : Nat) (w : World) (hy : y ≤ 9999) (hm : m ≤ 99999) (hd : d ≤ 99999) :
    Calls Tryz.prog 104 #[.int .i64 (y : Int), .int .i64 (m : Int), .int .i64 (d : Int)] w fun e w' => e = .returned (.tuple #[.int .i64 ((dayC y m d).1 : Nat), .int .i64 ((dayC y m d).2 : Nat)]) ∧ w = w' := by
  have HM := Lib.hid (fun k w' hk => Month4_any y k w' (by omega) hk)
  obtain ⟨r, hr⟩ : ∃ r, r = dayC y m d := ⟨_, rfl⟩
  rw [← hr]
  unfold dayC at hr
  have hml := monC_le y m
  by_cases h1 : d < 1
  · obtain rfl : d = 0 := by omega
    have HF : Hid (r = (0, 2)) := by unfold Hid; rw [hr, if_pos (.inl h1)]
    clear hr h1
    go_enter Tryz.func104, Tryz.ntmps104
    go_wp2_with fail
    go_ret2
    exact ⟨rii2 HF.out, rfl⟩
  have g1 : ((d : Int) < 1) = False := eq_false (by omega)
  have HMM := Lib.hid (fun w' => HM.out m w' (by omega))
  by_cases h2 : monC y m < d
  · have HF : Hid (r = (0, 2)) := by unfold Hid; rw [hr, if_pos (.inr h2)]
    have g2 : ((monC y m : Nat) : Int) < (d : Int) := by omega
    clear hr h1
    go_enter Tryz.func104, Tryz.ntmps104
    go_wp2_with (go_at_call 163; refine (HMM.out _).mono ?_; rintro e w' ⟨rfl, rfl⟩)
    go_ret2
    exact ⟨rii2 HF.out, rfl⟩
  have g2 : (((monC y m : Nat) : Int) < (d : Int)) = False := eq_false (by omega)
  obtain ⟨⟨hy1, hy2⟩, hm1, hm2⟩ := monC_pos (y := y) (m := m) (by omega)
  have HS := Lib.hid (fun w' => before_any y w' hy1 hy2)
  have hsl := startC_le y hy2
  have HF : Hid (r = (startC y + d - 1 + sumM y (m - 1), 0)) := by unfold Hid; rw [hr, if_neg (by omega)]
  have HSM := Lib.hid (fun k => sumM_le y k)
  have hd1 : (1 : Int) ≤ (d : Int) := by omega
  clear hr h1 h2
  generalize startC y = sc at *
  go_enter Tryz.func104, Tryz.ntmps104
  go_wp2_with (first
    | (go_at_call 163; refine (HMM.out _).mono ?_; rintro e w' ⟨rfl, rfl⟩)
    | (go_at_call 164; refine (HS.out _).mono ?_; rintro e w' ⟨rfl, rfl⟩))
  clear g2 HMM
  go_loopw [8, 9] (fun nv iv wr => ∃ k : Nat, iv = .int .i64 (k : Int) ∧ 1 ≤ k ∧ k ≤ m ∧ nv = .int .i64 ((sc + sumM y (k - 1) : Nat) : Int) ∧ w = wr) (fun _ iv _ => m - (intOf iv).toNat)
  case atStart => exact ⟨1, rfl, Nat.le_refl _, hm1, rfl, rfl⟩
  case round =>
    obtain ⟨k, rfl, hk1, hkm, rfl, rfl⟩ := hrel
    have hk0 : (0 : Int) ≤ (k : Int) := by omega
    have hsk := HSM.out (k - 1)
    by_cases hlt : k < m
    case neg =>
      obtain rfl : k = m := by omega
      have HF2 : Hid (r = (sc + sumM y (k - 1) + d - 1, 0)) := by unfold Hid; rw [HF.out]; congr 1; omega
      obtain ⟨N, hN⟩ : ∃ N, N = sc + sumM y (k - 1) := ⟨_, rfl⟩
      rw [← hN] at HF2
      have hNb : (N : Int) ≤ 100000000 := by omega
      rw [← hN]
      have HE : Hid ((N : Int) + (d : Int) - 1 = ((N + d - 1 : Nat) : Int)) := by unfold Hid; omega
      clear hN hsk HF
      go_wp2_with fail
      go_ret2
      refine ⟨?_, rfl⟩
      rw [HF2.out, ← HE.out]
      rfl
    have gk : (k : Int) < (m : Int) := by omega
    have HMK := Lib.hid (fun w' => HM.out k w' (by omega))
    have hmk := monC_le y k
    have HST : Hid (sumM y (k - 1) + monC y k = sumM y (k + 1 - 1)) := by
      unfold Hid
      obtain ⟨j, rfl⟩ : ∃ j, k = j + 1 := ⟨k - 1, by omega⟩
      rfl
    generalize monC y k = mk at *
    generalize sumM y (k - 1) = sk at *
    obtain ⟨N, hN⟩ : ∃ N, N = sc + sk := ⟨_, rfl⟩
    have hNb : (N : Int) ≤ 100000000 := by omega
    rw [← hN]
    have HNN := Lib.hid hN
    clear hN hsk
    go_wp2_with (go_at_call 163; refine (HMK.out _).mono ?_; rintro e w' ⟨rfl, rfl⟩)
    exact ⟨⟨k + 1, by go_num, by omega, by omega, congrArg (Value.int .i64) (by have h5 := HNN.out; have h6 := HST.out; omega), trivial⟩, by simp [intOf]; omega⟩
end Go.Proofs.YtgddhkanfcpipaaGreatDoor

namespace Go.Proofs.YtgddhkanfcpipaaGreatDoor
open Go.RowKit
set_option maxHeartbeats 8000000
set_option maxRecDepth 100000

/-! How large the fields are. -/
structure FlB (f : Fl) : Prop where
  y : f.y ≤ 9999
  mo : f.mo ≤ 99
  d : f.d ≤ 99
  ho : f.ho ≤ 99
  mi : f.mi ≤ 99
  se : f.se ≤ 99
  na : f.na ≤ 999999999
  sg : f.sg ≤ 255
  oh : f.oh ≤ 99
  om : f.om ≤ 99
theorem numS_lt (k : Nat) (x : ByteArray × Bool) : (numS k x).1 < 10 ^ k := by
  unfold numS
  have hp : 0 < 10 ^ k := Nat.pow_pos (by decide)
  split
  · rename_i h
    unfold numOK at h
    rw [Bool.and_eq_true] at h
    have h1 := valL_lt ((L x.1).take k) 0 (fun b hb => List.all_eq_true.1 h.2 b hb)
    have h2 : ((L x.1).take k).length ≤ k := by rw [List.length_take]; omega
    have h3 : (10 : Nat) ^ ((L x.1).take k).length ≤ 10 ^ k := Nat.pow_le_pow_right (by decide) h2
    dsimp only
    omega
  · exact hp
theorem num2 (x : ByteArray × Bool) : (numS 2 x).1 ≤ 99 := by
  have := numS_lt 2 x
  have e : (10 : Nat) ^ 2 = 100 := rfl
  omega
theorem num4 (x : ByteArray × Bool) : (numS 4 x).1 ≤ 9999 := by
  have := numS_lt 4 x
  have e : (10 : Nat) ^ 4 = 10000 := rfl
  omega
theorem oneS_le (of : ByteArray) (x : ByteArray × Bool) : (oneS of x).1 ≤ 255 := by
  unfold oneS
  split
  · exact Nat.zero_le _
  split
  · rename_i c _ _
    have := c.toNat_lt
    dsimp only
    omega
  · exact Nat.zero_le _
theorem run_all : ∀ (l : List UInt8), (l.take (runL l)).all dig = true
  | [] => rfl
  | b :: t => by
    have ih := run_all t
    show ((b :: t).take (if dig b then runL t + 1 else 0)).all dig = true
    cases hb : dig b
    · rfl
    · rw [if_pos rfl, List.take_succ_cons, List.all_cons, hb, ih]
      rfl
theorem fracS_lt (x : ByteArray × Bool) : (fracS x).1 ≤ 999999999 := by
  unfold fracS
  split
  · exact Nat.zero_le _
  · rename_i h
    have h1 := valL_lt ((L x.1).take (runL (L x.1))) 0 (fun b hb => List.all_eq_true.1 (run_all (L x.1)) b hb)
    have h2 : ((L x.1).take (runL (L x.1))).length ≤ runL (L x.1) := by rw [List.length_take]; omega
    have h3 : (10 : Nat) ^ ((L x.1).take (runL (L x.1))).length ≤ 10 ^ runL (L x.1) := Nat.pow_le_pow_right (by decide) h2
    dsimp only
    generalize valL 0 ((L x.1).take (runL (L x.1))) = v at *
    generalize runL (L x.1) = r at *
    have h4 : v + 1 ≤ 10 ^ r := by omega
    have h5 : (v + 1) * 10 ^ (9 - r) ≤ 10 ^ r * 10 ^ (9 - r) := Nat.mul_le_mul_right _ h4
    rw [← Nat.pow_add, show r + (9 - r) = 9 by omega, Nat.succ_mul] at h5
    have h6 : 0 < 10 ^ (9 - r) := Nat.pow_pos (by decide)
    have h7 : (10 : Nat) ^ 9 = 1000000000 := rfl
    omega
theorem FlB.zero : FlB fl0 := ⟨by decide, by decide, by decide, by decide, by decide, by decide, by decide, by decide, by decide, by decide⟩
theorem FlB.date {x : ByteArray × Bool} {f : Fl} (h : FlB f) : FlB (dateS x f).2 := ⟨num4 _, num2 _, num2 _, h.ho, h.mi, h.se, h.na, h.sg, h.oh, h.om⟩
theorem FlB.hms {x : ByteArray × Bool} {f : Fl} (h : FlB f) : FlB (hmsS x f).2 := ⟨h.y, h.mo, h.d, num2 _, num2 _, num2 _, h.na, h.sg, h.oh, h.om⟩
theorem FlB.clock {x : ByteArray × Bool} {f : Fl} (h : FlB f) : FlB (clockS x f).2 := by
  have h1 := h.hms (x := x)
  unfold clockS
  generalize hmsS x f = y at *
  unfold dotS
  split
  · exact ⟨h1.y, h1.mo, h1.d, h1.ho, h1.mi, h1.se, fracS_lt _, h1.sg, h1.oh, h1.om⟩
  · exact h1
theorem FlB.off {x : ByteArray × Bool} {f : Fl} (h : FlB f) : FlB (offS x f).2 := by
  unfold offS
  split
  · exact ⟨h.y, h.mo, h.d, h.ho, h.mi, h.se, h.na, oneS_le _ _, num2 _, num2 _⟩
  · exact ⟨h.y, h.mo, h.d, h.ho, h.mi, h.se, h.na, oneS_le _ _, h.oh, h.om⟩
theorem formS_b (x : ByteArray × Bool) (f : Fl) (h : FlB f) : FlB (formS x f).2.2 ∧ 1 ≤ (formS x f).1 ∧ (formS x f).1 ≤ 4 := by
  have h0 : FlB (clockS x f).2 := h.clock
  have h1 : FlB (dateS x f).2 := h.date
  unfold formS
  generalize clockS x f = c0 at *
  generalize dateS x f = d at *
  have h2 : FlB (clockS (oneS sepT d.1).2 d.2).2 := h1.clock
  generalize clockS (oneS sepT d.1).2 d.2 = c at *
  have h3 : FlB (offS c.1 c.2).2 := h2.off
  generalize offS c.1 c.2 = u at *
  split
  · exact ⟨h0, Nat.le_succ 1, Nat.le_of_ble_eq_true rfl⟩
  split
  · exact ⟨h1, Nat.le_refl 1, Nat.le_of_ble_eq_true rfl⟩
  split
  · exact ⟨h2, Nat.le_of_ble_eq_true rfl, Nat.le_of_ble_eq_true rfl⟩
  · exact ⟨h3, Nat.le_of_ble_eq_true rfl, Nat.le_of_ble_eq_true rfl⟩
/-- What Parse makes of the fields. -/
def badF (f : Fl) : Bool := decide (23 < f.ho ∨ 59 < f.mi ∨ 59 < f.se ∨ 23 < f.oh ∨ 59 < f.om)
def nanoF (f : Fl) : Nat := ((f.ho * 60 + f.mi) * 60 + f.se) * 1000000000 + f.na
def offF (f : Fl) : Int := if f.sg = 45 then -((f.oh * 60 + f.om : Nat) : Int) else ((f.oh * 60 + f.om : Nat) : Int)
def momF (kd : Nat) (f : Fl) : List Value × Nat :=
  if kd ≠ 2 ∧ (dayC f.y f.mo f.d).2 ≠ 0 then (tmZ, 2)
  else if badF f then (tmZ, 2)
  else ([.int .i64 (kd : Int), .int .i64 ((if kd = 2 then 0 else (dayC f.y f.mo f.d).1 : Nat) : Int), .int .i64 (nanoF f : Int), .int .i64 (offF f)], 0)
theorem row10 {w : World} {g : Nat} {t : TypeId} {a b c d e f h i j k : Value} (H : w.heap[g]? = some (.cells [a, b, c, d, e, f, h, i, j, k].toArray t (0, 0))) :
    w.cell? ⟨g, 0, none⟩ = some a ∧ w.cell? ⟨g, 1, none⟩ = some b ∧ w.cell? ⟨g, 2, none⟩ = some c ∧ w.cell? ⟨g, 3, none⟩ = some d ∧ w.cell? ⟨g, 4, none⟩ = some e ∧ w.cell? ⟨g, 5, none⟩ = some f ∧ w.cell? ⟨g, 6, none⟩ = some h ∧ w.cell? ⟨g, 7, none⟩ = some i ∧ w.cell? ⟨g, 8, none⟩ = some j ∧ w.cell? ⟨g, 9, none⟩ = some k :=
  ⟨(cell_of_row w g _ _ t (0, 0) H).trans rfl, (cell_of_row w g _ _ t (0, 0) H).trans rfl, (cell_of_row w g _ _ t (0, 0) H).trans rfl, (cell_of_row w g _ _ t (0, 0) H).trans rfl, (cell_of_row w g _ _ t (0, 0) H).trans rfl, (cell_of_row w g _ _ t (0, 0) H).trans rfl, (cell_of_row w g _ _ t (0, 0) H).trans rfl, (cell_of_row w g _ _ t (0, 0) H).trans rfl, (cell_of_row w g _ _ t (0, 0) H).trans rfl, (cell_of_row w g _ _ t (0, 0) H).trans rfl⟩
theorem one4 (a b c d : Int) : ∀ u ∈ [Value.int .i64 a, .int .i64 b, .int .i64 c, .int .i64 d], u.oneCell' = true := by
  intro u hu
  simp only [List.mem_cons, List.not_mem_nil, or_false] at hu
  rcases hu with rfl | rfl | rfl | rfl <;> rfl
theorem momPost {x : List Value × Nat} {l : List Value} {n : Nat} (h : x = (l, n)) : Ending.returned (.tuple #[.agg l.toArray, .int .i64 (n : Nat)]) = Ending.returned (.tuple #[.agg x.1.toArray, .int .i64 (x.2 : Nat)]) := by rw [h]
theorem ParseM_yes (s : ByteArray) (w : World) (hs : s.size ≤ 1000000000) (hb : timB s = true) :
    Calls Tryz.prog 39 #[.string s] w fun e w' => e = .returned (.tuple #[.agg (momF (formS (s, false) fl0).1 (formS (s, false) fl0).2.2).1.toArray, .int .i64 ((momF (formS (s, false) fl0).1 (formS (s, false) fl0).2.2).2 : Nat)]) ∧ Below w.heap.size w w' := by
  obtain ⟨Y, hY⟩ : ∃ Y, Y = momF (formS (s, false) fl0).1 (formS (s, false) fl0).2.2 := ⟨_, rfl⟩
  rw [← hY]
  have HY0 := Lib.hid hY
  clear hY
  have hm : s.size ≤ maxLen := by simp only [maxLen]; omega
  have HB := Lib.hid hb
  clear hb
  go_enter Tryz.func39, Tryz.ntmps39
  go_upto_region 3 with fail
  generalize hW1 : World.alloc w _ = w1
  obtain ⟨ha1, -, hz1, hb1⟩ := alloc_of hW1
  generalize hW2 : World.alloc w1 _ = w2
  obtain ⟨ha2, -, hz2, hb2⟩ := alloc_of hW2
  generalize hW3 : World.alloc w2 _ = w3
  obtain ⟨ha3, -, hz3, hb3⟩ := alloc_of hW3
  have e1 : w.heap.size + 1 = w1.heap.size := hz1.symm
  have e2 : w.heap.size + 1 + 1 = w2.heap.size := by omega
  have HR : Hid (RdA w3 (w.heap.size + 1) (s, false)) := by
    unfold Hid
    rw [e1]
    exact (hb3.block _ (by omega)).trans ha2
  have HF : Hid (FlA w3 (w.heap.size + 1 + 1) fl0) := by
    unfold Hid
    rw [e2]
    exact ha3
  have HX1 : Hid (w3.heap[w.heap.size]? = some (.cells tmZ.toArray 35 (0, 0))) := by
    unfold Hid
    exact (hb3.block _ (by omega)).trans ((hb2.block _ (by omega)).trans ha1)
  have HBW : Hid (Below w.heap.size w w3) := hb1.trans ((hb2.mono (by omega)).trans (hb3.mono (by omega)))
  have HZ3 : Hid (w3.heap.size = w.heap.size + 3) := by unfold Hid; omega
  clear hW1 hW2 hW3 ha1 ha2 ha3 hz1 hz2 hz3 hb1 hb2 hb3 e1 e2
  have hne : w.heap.size + 1 + 1 ≠ w.heap.size + 1 := by omega
  go_wp2_with fail
  refine (form_x (w.heap.size + 1) (w.heap.size + 1 + 1) (s, false) fl0 w3 hs hne HR.out HF.out).mono ?_
  rintro e w4 ⟨rfl, hr, hf, ho⟩
  replace HR := Lib.hid hr
  have HX : Hid (w4.heap[w.heap.size]? = some (.cells tmZ.toArray 35 (0, 0))) := (ho.o _ (by omega) (by omega)).trans HX1.out
  replace HBW := Lib.hid (HBW.out.trans (ho.b w.heap.size (by omega) (by omega)))
  replace HF := Lib.hid hf
  have HZ4 : Hid (w4.heap.size = w.heap.size + 3) := by have h3 := HZ3.out; have h4 := ho.z; unfold Hid; omega
  clear hr hf ho HX1 HZ3
  have hT := HB.out
  unfold timB at hT
  obtain ⟨hFB, hk1, hk4⟩ := formS_b (s, false) fl0 FlB.zero
  clear HB
  generalize formS (s, false) fl0 = yy at *
  obtain ⟨kd, ⟨s4, b4⟩, f⟩ := yy
  dsimp only at hT HR HF hFB hk1 hk4 ⊢
  rw [Bool.and_eq_true, Bool.not_eq_true'] at hT
  obtain ⟨hb4, hs4⟩ := hT
  subst hb4
  have hs4' : L s4 = [] := of_decide_eq_true hs4
  have he1 : s4.toList.isEmpty = true := by rw [empty_L]; simpa using hs4'
  obtain ⟨c0, c1⟩ := HR.out.cells
  have hY : Y = momF kd f := HY0.out
  clear HY0
  have HY : Hid (Y = if kd ≠ 2 ∧ (dayC f.y f.mo f.d).2 ≠ 0 then (tmZ, 2) else if badF f then (tmZ, 2) else ([.int .i64 (kd : Int), .int .i64 ((if kd = 2 then 0 else (dayC f.y f.mo f.d).1 : Nat) : Int), .int .i64 (nanoF f : Int), .int .i64 (offF f)], 0)) := hY
  clear hs4 hs4' hY
  have HDA := Lib.hid (fun w' => Day_any f.y f.mo f.d w' hFB.y (Nat.le_trans hFB.mo (by decide)) (Nat.le_trans hFB.d (by decide)))
  have HFB := Lib.hid hFB
  clear hFB
  go_upto_region 7 with fail
  generalize hW5 : World.alloc w4 _ = w5
  obtain ⟨ha5, -, hz5, hb5⟩ := alloc_of hW5
  have HT : Hid (w5.heap[w4.heap.size]? = some (.cells [.int .i64 (kd : Int), .int .i64 0, .int .i64 0, .int .i64 0].toArray 35 (0, 0))) := ha5
  replace HF : Hid (FlA w5 (w.heap.size + 1 + 1) f) := (hb5.block _ (by have := HZ4.out; omega)).trans HF.out
  replace HX := Lib.hid ((hb5.block _ (by have := HZ4.out; omega)).trans HX.out)
  replace HBW := Lib.hid (HBW.out.trans (hb5.mono (by have := HZ4.out; omega)))
  have HZ5 : Hid (w5.heap.size = w.heap.size + 4) := by have := HZ4.out; unfold Hid; omega
  obtain ⟨g7, hg7⟩ : ∃ g7, g7 = w4.heap.size := ⟨_, rfl⟩
  rw [← hg7] at HT ⊢
  have HG7 : Hid (g7 = w.heap.size + 3) := by have := HZ4.out; unfold Hid; omega
  clear hW5 ha5 hz5 hb5 c0 c1 HR he1 hg7 HZ4
  by_cases hkd : kd = 2
  case pos =>
    have gk : ((kd : Int) != 2) = false := by rw [bne_eq_false_iff_eq]; omega
    replace HY : Hid (Y = if badF f then (tmZ, 2) else ([.int .i64 (kd : Int), .int .i64 ((0 : Nat) : Int), .int .i64 (nanoF f : Int), .int .i64 (offF f)], 0)) := by unfold Hid; rw [HY.out, if_neg (fun h => h.1 hkd), if_pos hkd]
    clear hkd
    go_upto_region 12 with fail
    obtain ⟨z0, z1, z2, z3, z4, z5, z6, z7, z8, z9⟩ := row10 HF.out
    have hho := HFB.out.ho
    have hmi := HFB.out.mi
    have hse := HFB.out.se
    have hna := HFB.out.na
    have hoh := HFB.out.oh
    have hom := HFB.out.om
    go_cut [68] (fun v wx => v = .bool (badF f) ∧ w5 = wx)
    case first =>
      clear HY
      go_wp2_with fail
      all_goals
        go_meet
        refine ⟨congrArg Value.bool ?_, rfl⟩
        unfold badF
        rw [Bool.eq_iff_iff]
        simp at *
        omega
    case rest =>
    obtain ⟨hv, rfl⟩ := hcut
    subst hv
    cases hbf : badF f
    case true =>
      have HE : Hid (Y = (tmZ, 2)) := by unfold Hid; rw [HY.out, hbf]; rfl
      clear HY hbf
      go_wp2_with (refine wpl_store rfl rfl moTm rfl rfl (cs := tmZ) rfl rfl fits_tm HX.out (Nat.le_of_ble_eq_true rfl) (row := tmZ) rfl ?_; generalize hW : World.setRow _ _ _ = w9; have HS := Lib.hid (setRow_of hW HX.out); clear hW)
      obtain ⟨hd5, -, hz5, hb5⟩ := HS.out
      obtain ⟨y0, y1, y2, y3⟩ := row4 hd5
      exact bodyPost_ret (v := .tuple #[.agg tmZ.toArray, .int .i64 2]) (by simp [results, Tryz.results39, go_sem, y0, y1, y2, y3]) rfl ⟨momPost HE.out, HBW.out.trans (hb5 _ (Nat.le_refl _))⟩
    case false =>
      have HE : Hid (Y = ([.int .i64 (kd : Int), .int .i64 ((0 : Nat) : Int), .int .i64 (nanoF f : Int), .int .i64 (offF f)], 0)) := by unfold Hid; rw [HY.out, hbf]; first | rfl | (simp; done)
      clear HY hbf
      have HN7 : Hid (w.heap.size + 1 + 1 ≠ g7 ∧ w.heap.size ≠ g7 ∧ w.heap.size ≤ g7) := by have := HG7.out; unfold Hid; omega
      go_upto_region 15 with (refine wpl_store rfl rfl moI rfl rfl (cs := [.int .i64 ((((f.ho : Int) * 60 + (f.mi : Int)) * 60 + (f.se : Int)) * 1000000000 + (f.na : Int))]) rfl rfl (one_cell rfl) HT.out (Nat.le_of_ble_eq_true rfl) (row := [.int .i64 (kd : Int), .int .i64 ((0 : Nat) : Int), .int .i64 ((((f.ho : Int) * 60 + (f.mi : Int)) * 60 + (f.se : Int)) * 1000000000 + (f.na : Int)), .int .i64 (0)]) rfl ?_; generalize hW : World.setRow _ _ _ = ws; have hs9 := setRow_of hW HT.out; replace HF : Hid (FlA ws (w.heap.size + 1 + 1) f) := (hs9.2.1 _ HN7.out.1).trans HF.out; replace HX := Lib.hid ((hs9.2.1 _ HN7.out.2.1).trans HX.out); replace HBW := Lib.hid (HBW.out.trans (hs9.2.2.2 _ HN7.out.2.2)); replace HT := Lib.hid hs9.1; clear hs9 hW)
      clear z0 z1 z2 z3 z4 z5 z6 z7 z8 z9
      obtain ⟨z0, z1, z2, z3, z4, z5, z6, z7, z8, z9⟩ := row10 HF.out
      go_upto_region 16 with (refine wpl_store rfl rfl moI rfl rfl (cs := [.int .i64 ((f.oh : Int) * 60 + (f.om : Int))]) rfl rfl (one_cell rfl) HT.out (Nat.le_of_ble_eq_true rfl) (row := [.int .i64 (kd : Int), .int .i64 ((0 : Nat) : Int), .int .i64 ((((f.ho : Int) * 60 + (f.mi : Int)) * 60 + (f.se : Int)) * 1000000000 + (f.na : Int)), .int .i64 ((f.oh : Int) * 60 + (f.om : Int))]) rfl ?_; generalize hW : World.setRow _ _ _ = ws; have hs9 := setRow_of hW HT.out; replace HF : Hid (FlA ws (w.heap.size + 1 + 1) f) := (hs9.2.1 _ HN7.out.1).trans HF.out; replace HX := Lib.hid ((hs9.2.1 _ HN7.out.2.1).trans HX.out); replace HBW := Lib.hid (HBW.out.trans (hs9.2.2.2 _ HN7.out.2.2)); replace HT := Lib.hid hs9.1; clear hs9 hW)
      clear z0 z1 z2 z3 z4 z5 z6 z7 z8 z9
      obtain ⟨z0, z1, z2, z3, z4, z5, z6, z7, z8, z9⟩ := row10 HF.out
      by_cases hsg : f.sg = 45
      case pos =>
        have gs : (((f.sg : Nat) : Int) == 45) = true := by rw [beq_iff_eq]; omega
        obtain ⟨-, -, -, y3⟩ := row4 HT.out
        go_upto_region 18 with (refine wpl_store rfl rfl moI rfl rfl (cs := [.int .i64 (-((f.oh : Int) * 60 + (f.om : Int)))]) rfl rfl (one_cell rfl) HT.out (Nat.le_of_ble_eq_true rfl) (row := [.int .i64 (kd : Int), .int .i64 ((0 : Nat) : Int), .int .i64 ((((f.ho : Int) * 60 + (f.mi : Int)) * 60 + (f.se : Int)) * 1000000000 + (f.na : Int)), .int .i64 (-((f.oh : Int) * 60 + (f.om : Int)))]) rfl ?_; generalize hW : World.setRow _ _ _ = ws; have hs9 := setRow_of hW HT.out; replace HF : Hid (FlA ws (w.heap.size + 1 + 1) f) := (hs9.2.1 _ HN7.out.1).trans HF.out; replace HX := Lib.hid ((hs9.2.1 _ HN7.out.2.1).trans HX.out); replace HBW := Lib.hid (HBW.out.trans (hs9.2.2.2 _ HN7.out.2.2)); replace HT := Lib.hid hs9.1; clear hs9 hW)
        clear y3
        have HC : Hid (∀ j, j < 4 → ws.cell? ⟨g7, 0 + j, none⟩ = ([.int .i64 (kd : Int), .int .i64 ((0 : Nat) : Int), .int .i64 ((((f.ho : Int) * 60 + (f.mi : Int)) * 60 + (f.se : Int)) * 1000000000 + (f.na : Int)), .int .i64 (-((f.oh : Int) * 60 + (f.om : Int)))] : List Value)[j]?) := by
          intro j hj
          rw [Nat.zero_add, cell_of_row _ _ _ _ _ _ HT.out, List.getElem?_toArray]
        go_wp2_with (first
          | refine wpl_load rfl rfl stTm rfl (cs := [.int .i64 (kd : Int), .int .i64 ((0 : Nat) : Int), .int .i64 ((((f.ho : Int) * 60 + (f.mi : Int)) * 60 + (f.se : Int)) * 1000000000 + (f.na : Int)), .int .i64 (-((f.oh : Int) * 60 + (f.om : Int)))]) rfl HC.out ?_
          | (refine wpl_store rfl rfl moTm rfl rfl (cs := [.int .i64 (kd : Int), .int .i64 ((0 : Nat) : Int), .int .i64 ((((f.ho : Int) * 60 + (f.mi : Int)) * 60 + (f.se : Int)) * 1000000000 + (f.na : Int)), .int .i64 (-((f.oh : Int) * 60 + (f.om : Int)))]) rfl rfl (one4 _ _ _ _) HX.out (Nat.le_of_ble_eq_true rfl) (row := [.int .i64 (kd : Int), .int .i64 ((0 : Nat) : Int), .int .i64 ((((f.ho : Int) * 60 + (f.mi : Int)) * 60 + (f.se : Int)) * 1000000000 + (f.na : Int)), .int .i64 (-((f.oh : Int) * 60 + (f.om : Int)))]) rfl ?_; generalize hW : World.setRow _ _ _ = w9; have HS := Lib.hid (setRow_of hW HX.out); clear hW))
        obtain ⟨hd5, -, hz5, hb5⟩ := HS.out
        obtain ⟨y0, y1, y2, y3⟩ := row4 hd5
        have HE2 : Hid (Y = ([.int .i64 (kd : Int), .int .i64 ((0 : Nat) : Int), .int .i64 ((((f.ho : Int) * 60 + (f.mi : Int)) * 60 + (f.se : Int)) * 1000000000 + (f.na : Int)), .int .i64 (-((f.oh : Int) * 60 + (f.om : Int)))], 0)) := by
          unfold Hid
          rw [HE.out]
          have e1 : ((nanoF f : Nat) : Int) = (((f.ho : Int) * 60 + (f.mi : Int)) * 60 + (f.se : Int)) * 1000000000 + (f.na : Int) := by unfold nanoF; omega
          have e2 : offF f = -((f.oh : Int) * 60 + (f.om : Int)) := by unfold offF; rw [if_pos hsg]; omega
          rw [e1, e2]
        exact bodyPost_ret (v := .tuple #[.agg ([.int .i64 (kd : Int), .int .i64 ((0 : Nat) : Int), .int .i64 ((((f.ho : Int) * 60 + (f.mi : Int)) * 60 + (f.se : Int)) * 1000000000 + (f.na : Int)), .int .i64 (-((f.oh : Int) * 60 + (f.om : Int)))] : List Value).toArray, .int .i64 0]) (by simp [results, Tryz.results39, go_sem, y0, y1, y2, y3]) rfl ⟨momPost HE2.out, HBW.out.trans (hb5 _ (Nat.le_refl _))⟩
      case neg =>
        have gs : (((f.sg : Nat) : Int) == 45) = false := by rw [beq_eq_false_iff_ne]; omega
        have HC : Hid (∀ j, j < 4 → ws.cell? ⟨g7, 0 + j, none⟩ = ([.int .i64 (kd : Int), .int .i64 ((0 : Nat) : Int), .int .i64 ((((f.ho : Int) * 60 + (f.mi : Int)) * 60 + (f.se : Int)) * 1000000000 + (f.na : Int)), .int .i64 ((f.oh : Int) * 60 + (f.om : Int))] : List Value)[j]?) := by
          intro j hj
          rw [Nat.zero_add, cell_of_row _ _ _ _ _ _ HT.out, List.getElem?_toArray]
        go_wp2_with (first
          | refine wpl_load rfl rfl stTm rfl (cs := [.int .i64 (kd : Int), .int .i64 ((0 : Nat) : Int), .int .i64 ((((f.ho : Int) * 60 + (f.mi : Int)) * 60 + (f.se : Int)) * 1000000000 + (f.na : Int)), .int .i64 ((f.oh : Int) * 60 + (f.om : Int))]) rfl HC.out ?_
          | (refine wpl_store rfl rfl moTm rfl rfl (cs := [.int .i64 (kd : Int), .int .i64 ((0 : Nat) : Int), .int .i64 ((((f.ho : Int) * 60 + (f.mi : Int)) * 60 + (f.se : Int)) * 1000000000 + (f.na : Int)), .int .i64 ((f.oh : Int) * 60 + (f.om : Int))]) rfl rfl (one4 _ _ _ _) HX.out (Nat.le_of_ble_eq_true rfl) (row := [.int .i64 (kd : Int), .int .i64 ((0 : Nat) : Int), .int .i64 ((((f.ho : Int) * 60 + (f.mi : Int)) * 60 + (f.se : Int)) * 1000000000 + (f.na : Int)), .int .i64 ((f.oh : Int) * 60 + (f.om : Int))]) rfl ?_; generalize hW : World.setRow _ _ _ = w9; have HS := Lib.hid (setRow_of hW HX.out); clear hW))
        obtain ⟨hd5, -, hz5, hb5⟩ := HS.out
        obtain ⟨y0, y1, y2, y3⟩ := row4 hd5
        have HE2 : Hid (Y = ([.int .i64 (kd : Int), .int .i64 ((0 : Nat) : Int), .int .i64 ((((f.ho : Int) * 60 + (f.mi : Int)) * 60 + (f.se : Int)) * 1000000000 + (f.na : Int)), .int .i64 ((f.oh : Int) * 60 + (f.om : Int))], 0)) := by
          unfold Hid
          rw [HE.out]
          have e1 : ((nanoF f : Nat) : Int) = (((f.ho : Int) * 60 + (f.mi : Int)) * 60 + (f.se : Int)) * 1000000000 + (f.na : Int) := by unfold nanoF; omega
          have e2 : offF f = (f.oh : Int) * 60 + (f.om : Int) := by unfold offF; rw [if_neg hsg]; omega
          rw [e1, e2]
        exact bodyPost_ret (v := .tuple #[.agg ([.int .i64 (kd : Int), .int .i64 ((0 : Nat) : Int), .int .i64 ((((f.ho : Int) * 60 + (f.mi : Int)) * 60 + (f.se : Int)) * 1000000000 + (f.na : Int)), .int .i64 ((f.oh : Int) * 60 + (f.om : Int))] : List Value).toArray, .int .i64 0]) (by simp [results, Tryz.results39, go_sem, y0, y1, y2, y3]) rfl ⟨momPost HE2.out, HBW.out.trans (hb5 _ (Nat.le_refl _))⟩
  case neg =>
    have gk : ((kd : Int) != 2) = true := by rw [bne_iff_ne]; omega
    obtain ⟨z0, z1, z2, z3, z4, z5, z6, z7, z8, z9⟩ := row10 HF.out
    go_wp2_with fail
    refine (HDA.out _).mono ?_
    rintro e w6 ⟨rfl, hb6⟩
    replace HF : Hid (FlA w6 (w.heap.size + 1 + 1) f) := (hb6.block _ (by have := HZ5.out; omega)).trans HF.out
    replace HX := Lib.hid ((hb6.block _ (by have := HZ5.out; omega)).trans HX.out)
    replace HT := Lib.hid ((hb6.block _ (by have := HZ5.out; have := HG7.out; omega)).trans HT.out)
    replace HBW := Lib.hid (HBW.out.trans (hb6.mono (by have := HZ5.out; omega)))
    have hdb : (dayC f.y f.mo f.d).1 ≤ 100000000 := by
      have h1 := startC_le f.y HFB.out.y
      have h2 := sumM_le f.y (f.mo - 1)
      have h3 := HFB.out.mo
      have h4 := HFB.out.d
      unfold dayC
      split
      · exact Nat.zero_le _
      · dsimp only
        omega
    have hde : (dayC f.y f.mo f.d).2 = 0 ∨ (dayC f.y f.mo f.d).2 = 2 := by
      unfold dayC
      split
      · exact .inr rfl
      · exact .inl rfl
    generalize dayC f.y f.mo f.d = dc at *
    obtain ⟨dy, de⟩ := dc
    dsimp only at hdb hde HY ⊢
    clear hb6 HDA HZ5 z0 z1 z2 z3 z4 z5 z6 z7 z8 z9
    by_cases hd0 : de = 0
    case neg =>
      have gd : ((de : Int) != 0) = true := by rw [bne_iff_ne]; omega
      have HE : Hid (Y = (tmZ, 2)) := by unfold Hid; rw [HY.out, if_pos ⟨hkd, hd0⟩]
      clear HY hkd hd0 hde
      go_wp2_with (refine wpl_store rfl rfl moTm rfl rfl (cs := tmZ) rfl rfl fits_tm HX.out (Nat.le_of_ble_eq_true rfl) (row := tmZ) rfl ?_; generalize hW : World.setRow _ _ _ = w9; have HS := Lib.hid (setRow_of hW HX.out); clear hW)
      obtain ⟨hd5, -, hz5, hb5⟩ := HS.out
      obtain ⟨y0, y1, y2, y3⟩ := row4 hd5
      exact bodyPost_ret (v := .tuple #[.agg tmZ.toArray, .int .i64 2]) (by simp [results, Tryz.results39, go_sem, y0, y1, y2, y3]) rfl ⟨momPost HE.out, HBW.out.trans (hb5 _ (Nat.le_refl _))⟩
    have gd : ((de : Int) != 0) = false := by rw [bne_eq_false_iff_eq]; omega
    replace HY : Hid (Y = if badF f then (tmZ, 2) else ([.int .i64 (kd : Int), .int .i64 ((dy : Nat) : Int), .int .i64 (nanoF f : Int), .int .i64 (offF f)], 0)) := by unfold Hid; rw [HY.out, if_neg (fun h => h.2 hd0), if_neg hkd]
    have HN7 : Hid (w.heap.size + 1 + 1 ≠ g7 ∧ w.heap.size ≠ g7 ∧ w.heap.size ≤ g7) := by have := HG7.out; unfold Hid; omega
    clear hkd hd0 hde
    go_upto_region 12 with (refine wpl_store rfl rfl moI rfl rfl (cs := [.int .i64 ((dy : Int))]) rfl rfl (one_cell rfl) HT.out (Nat.le_of_ble_eq_true rfl) (row := [.int .i64 (kd : Int), .int .i64 ((dy : Nat) : Int), .int .i64 0, .int .i64 0]) rfl ?_; generalize hW : World.setRow _ _ _ = ws; have hs9 := setRow_of hW HT.out; replace HF : Hid (FlA ws (w.heap.size + 1 + 1) f) := (hs9.2.1 _ HN7.out.1).trans HF.out; replace HX := Lib.hid ((hs9.2.1 _ HN7.out.2.1).trans HX.out); replace HBW := Lib.hid (HBW.out.trans (hs9.2.2.2 _ HN7.out.2.2)); replace HT := Lib.hid hs9.1; clear hs9 hW)
    obtain ⟨z0, z1, z2, z3, z4, z5, z6, z7, z8, z9⟩ := row10 HF.out
    have hho := HFB.out.ho
    have hmi := HFB.out.mi
    have hse := HFB.out.se
    have hna := HFB.out.na
    have hoh := HFB.out.oh
    have hom := HFB.out.om
    go_simp
    go_cut [68] (fun v wx => v = .bool (badF f) ∧ ws = wx)
    case first =>
      clear HY
      go_wp2_with fail
      all_goals
        go_meet
        refine ⟨congrArg Value.bool ?_, rfl⟩
        unfold badF
        rw [Bool.eq_iff_iff]
        simp at *
        omega
    case rest =>
    obtain ⟨hv, rfl⟩ := hcut
    subst hv
    cases hbf : badF f
    case true =>
      have HE : Hid (Y = (tmZ, 2)) := by unfold Hid; rw [HY.out, hbf]; rfl
      clear HY hbf
      go_wp2_with (refine wpl_store rfl rfl moTm rfl rfl (cs := tmZ) rfl rfl fits_tm HX.out (Nat.le_of_ble_eq_true rfl) (row := tmZ) rfl ?_; generalize hW : World.setRow _ _ _ = w9; have HS := Lib.hid (setRow_of hW HX.out); clear hW)
      obtain ⟨hd5, -, hz5, hb5⟩ := HS.out
      obtain ⟨y0, y1, y2, y3⟩ := row4 hd5
      exact bodyPost_ret (v := .tuple #[.agg tmZ.toArray, .int .i64 2]) (by simp [results, Tryz.results39, go_sem, y0, y1, y2, y3]) rfl ⟨momPost HE.out, HBW.out.trans (hb5 _ (Nat.le_refl _))⟩
    case false =>
      have HE : Hid (Y = ([.int .i64 (kd : Int), .int .i64 ((dy : Nat) : Int), .int .i64 (nanoF f : Int), .int .i64 (offF f)], 0)) := by unfold Hid; rw [HY.out, hbf]; first | rfl | (simp; done)
      clear HY hbf
      have HN7 : Hid (w.heap.size + 1 + 1 ≠ g7 ∧ w.heap.size ≠ g7 ∧ w.heap.size ≤ g7) := by have := HG7.out; unfold Hid; omega
      go_upto_region 15 with (refine wpl_store rfl rfl moI rfl rfl (cs := [.int .i64 ((((f.ho : Int) * 60 + (f.mi : Int)) * 60 + (f.se : Int)) * 1000000000 + (f.na : Int))]) rfl rfl (one_cell rfl) HT.out (Nat.le_of_ble_eq_true rfl) (row := [.int .i64 (kd : Int), .int .i64 ((dy : Nat) : Int), .int .i64 ((((f.ho : Int) * 60 + (f.mi : Int)) * 60 + (f.se : Int)) * 1000000000 + (f.na : Int)), .int .i64 (0)]) rfl ?_; generalize hW : World.setRow _ _ _ = ws; have hs9 := setRow_of hW HT.out; replace HF : Hid (FlA ws (w.heap.size + 1 + 1) f) := (hs9.2.1 _ HN7.out.1).trans HF.out; replace HX := Lib.hid ((hs9.2.1 _ HN7.out.2.1).trans HX.out); replace HBW := Lib.hid (HBW.out.trans (hs9.2.2.2 _ HN7.out.2.2)); replace HT := Lib.hid hs9.1; clear hs9 hW)
      clear z0 z1 z2 z3 z4 z5 z6 z7 z8 z9
      obtain ⟨z0, z1, z2, z3, z4, z5, z6, z7, z8, z9⟩ := row10 HF.out
      go_upto_region 16 with (refine wpl_store rfl rfl moI rfl rfl (cs := [.int .i64 ((f.oh : Int) * 60 + (f.om : Int))]) rfl rfl (one_cell rfl) HT.out (Nat.le_of_ble_eq_true rfl) (row := [.int .i64 (kd : Int), .int .i64 ((dy : Nat) : Int), .int .i64 ((((f.ho : Int) * 60 + (f.mi : Int)) * 60 + (f.se : Int)) * 1000000000 + (f.na : Int)), .int .i64 ((f.oh : Int) * 60 + (f.om : Int))]) rfl ?_; generalize hW : World.setRow _ _ _ = ws; have hs9 := setRow_of hW HT.out; replace HF : Hid (FlA ws (w.heap.size + 1 + 1) f) := (hs9.2.1 _ HN7.out.1).trans HF.out; replace HX := Lib.hid ((hs9.2.1 _ HN7.out.2.1).trans HX.out); replace HBW := Lib.hid (HBW.out.trans (hs9.2.2.2 _ HN7.out.2.2)); replace HT := Lib.hid hs9.1; clear hs9 hW)
      clear z0 z1 z2 z3 z4 z5 z6 z7 z8 z9
      obtain ⟨z0, z1, z2, z3, z4, z5, z6, z7, z8, z9⟩ := row10 HF.out
      by_cases hsg : f.sg = 45
      case pos =>
        have gs : (((f.sg : Nat) : Int) == 45) = true := by rw [beq_iff_eq]; omega
        obtain ⟨-, -, -, y3⟩ := row4 HT.out
        go_upto_region 18 with (refine wpl_store rfl rfl moI rfl rfl (cs := [.int .i64 (-((f.oh : Int) * 60 + (f.om : Int)))]) rfl rfl (one_cell rfl) HT.out (Nat.le_of_ble_eq_true rfl) (row := [.int .i64 (kd : Int), .int .i64 ((dy : Nat) : Int), .int .i64 ((((f.ho : Int) * 60 + (f.mi : Int)) * 60 + (f.se : Int)) * 1000000000 + (f.na : Int)), .int .i64 (-((f.oh : Int) * 60 + (f.om : Int)))]) rfl ?_; generalize hW : World.setRow _ _ _ = ws; have hs9 := setRow_of hW HT.out; replace HF : Hid (FlA ws (w.heap.size + 1 + 1) f) := (hs9.2.1 _ HN7.out.1).trans HF.out; replace HX := Lib.hid ((hs9.2.1 _ HN7.out.2.1).trans HX.out); replace HBW := Lib.hid (HBW.out.trans (hs9.2.2.2 _ HN7.out.2.2)); replace HT := Lib.hid hs9.1; clear hs9 hW)
        clear y3
        have HC : Hid (∀ j, j < 4 → ws.cell? ⟨g7, 0 + j, none⟩ = ([.int .i64 (kd : Int), .int .i64 ((dy : Nat) : Int), .int .i64 ((((f.ho : Int) * 60 + (f.mi : Int)) * 60 + (f.se : Int)) * 1000000000 + (f.na : Int)), .int .i64 (-((f.oh : Int) * 60 + (f.om : Int)))] : List Value)[j]?) := by
          intro j hj
          rw [Nat.zero_add, cell_of_row _ _ _ _ _ _ HT.out, List.getElem?_toArray]
        go_wp2_with (first
          | refine wpl_load rfl rfl stTm rfl (cs := [.int .i64 (kd : Int), .int .i64 ((dy : Nat) : Int), .int .i64 ((((f.ho : Int) * 60 + (f.mi : Int)) * 60 + (f.se : Int)) * 1000000000 + (f.na : Int)), .int .i64 (-((f.oh : Int) * 60 + (f.om : Int)))]) rfl HC.out ?_
          | (refine wpl_store rfl rfl moTm rfl rfl (cs := [.int .i64 (kd : Int), .int .i64 ((dy : Nat) : Int), .int .i64 ((((f.ho : Int) * 60 + (f.mi : Int)) * 60 + (f.se : Int)) * 1000000000 + (f.na : Int)), .int .i64 (-((f.oh : Int) * 60 + (f.om : Int)))]) rfl rfl (one4 _ _ _ _) HX.out (Nat.le_of_ble_eq_true rfl) (row := [.int .i64 (kd : Int), .int .i64 ((dy : Nat) : Int), .int .i64 ((((f.ho : Int) * 60 + (f.mi : Int)) * 60 + (f.se : Int)) * 1000000000 + (f.na : Int)), .int .i64 (-((f.oh : Int) * 60 + (f.om : Int)))]) rfl ?_; generalize hW : World.setRow _ _ _ = w9; have HS := Lib.hid (setRow_of hW HX.out); clear hW))
        obtain ⟨hd5, -, hz5, hb5⟩ := HS.out
        obtain ⟨y0, y1, y2, y3⟩ := row4 hd5
        have HE2 : Hid (Y = ([.int .i64 (kd : Int), .int .i64 ((dy : Nat) : Int), .int .i64 ((((f.ho : Int) * 60 + (f.mi : Int)) * 60 + (f.se : Int)) * 1000000000 + (f.na : Int)), .int .i64 (-((f.oh : Int) * 60 + (f.om : Int)))], 0)) := by
          unfold Hid
          rw [HE.out]
          have e1 : ((nanoF f : Nat) : Int) = (((f.ho : Int) * 60 + (f.mi : Int)) * 60 + (f.se : Int)) * 1000000000 + (f.na : Int) := by unfold nanoF; omega
          have e2 : offF f = -((f.oh : Int) * 60 + (f.om : Int)) := by unfold offF; rw [if_pos hsg]; omega
          rw [e1, e2]
        exact bodyPost_ret (v := .tuple #[.agg ([.int .i64 (kd : Int), .int .i64 ((dy : Nat) : Int), .int .i64 ((((f.ho : Int) * 60 + (f.mi : Int)) * 60 + (f.se : Int)) * 1000000000 + (f.na : Int)), .int .i64 (-((f.oh : Int) * 60 + (f.om : Int)))] : List Value).toArray, .int .i64 0]) (by simp [results, Tryz.results39, go_sem, y0, y1, y2, y3]) rfl ⟨momPost HE2.out, HBW.out.trans (hb5 _ (Nat.le_refl _))⟩
      case neg =>
        have gs : (((f.sg : Nat) : Int) == 45) = false := by rw [beq_eq_false_iff_ne]; omega
        have HC : Hid (∀ j, j < 4 → ws.cell? ⟨g7, 0 + j, none⟩ = ([.int .i64 (kd : Int), .int .i64 ((dy : Nat) : Int), .int .i64 ((((f.ho : Int) * 60 + (f.mi : Int)) * 60 + (f.se : Int)) * 1000000000 + (f.na : Int)), .int .i64 ((f.oh : Int) * 60 + (f.om : Int))] : List Value)[j]?) := by
          intro j hj
          rw [Nat.zero_add, cell_of_row _ _ _ _ _ _ HT.out, List.getElem?_toArray]
        go_wp2_with (first
          | refine wpl_load rfl rfl stTm rfl (cs := [.int .i64 (kd : Int), .int .i64 ((dy : Nat) : Int), .int .i64 ((((f.ho : Int) * 60 + (f.mi : Int)) * 60 + (f.se : Int)) * 1000000000 + (f.na : Int)), .int .i64 ((f.oh : Int) * 60 + (f.om : Int))]) rfl HC.out ?_
          | (refine wpl_store rfl rfl moTm rfl rfl (cs := [.int .i64 (kd : Int), .int .i64 ((dy : Nat) : Int), .int .i64 ((((f.ho : Int) * 60 + (f.mi : Int)) * 60 + (f.se : Int)) * 1000000000 + (f.na : Int)), .int .i64 ((f.oh : Int) * 60 + (f.om : Int))]) rfl rfl (one4 _ _ _ _) HX.out (Nat.le_of_ble_eq_true rfl) (row := [.int .i64 (kd : Int), .int .i64 ((dy : Nat) : Int), .int .i64 ((((f.ho : Int) * 60 + (f.mi : Int)) * 60 + (f.se : Int)) * 1000000000 + (f.na : Int)), .int .i64 ((f.oh : Int) * 60 + (f.om : Int))]) rfl ?_; generalize hW : World.setRow _ _ _ = w9; have HS := Lib.hid (setRow_of hW HX.out); clear hW))
        obtain ⟨hd5, -, hz5, hb5⟩ := HS.out
        obtain ⟨y0, y1, y2, y3⟩ := row4 hd5
        have HE2 : Hid (Y = ([.int .i64 (kd : Int), .int .i64 ((dy : Nat) : Int), .int .i64 ((((f.ho : Int) * 60 + (f.mi : Int)) * 60 + (f.se : Int)) * 1000000000 + (f.na : Int)), .int .i64 ((f.oh : Int) * 60 + (f.om : Int))], 0)) := by
          unfold Hid
          rw [HE.out]
          have e1 : ((nanoF f : Nat) : Int) = (((f.ho : Int) * 60 + (f.mi : Int)) * 60 + (f.se : Int)) * 1000000000 + (f.na : Int) := by unfold nanoF; omega
          have e2 : offF f = (f.oh : Int) * 60 + (f.om : Int) := by unfold offF; rw [if_neg hsg]; omega
          rw [e1, e2]
        exact bodyPost_ret (v := .tuple #[.agg ([.int .i64 (kd : Int), .int .i64 ((dy : Nat) : Int), .int .i64 ((((f.ho : Int) * 60 + (f.mi : Int)) * 60 + (f.se : Int)) * 1000000000 + (f.na : Int)), .int .i64 ((f.oh : Int) * 60 + (f.om : Int))] : List Value).toArray, .int .i64 0]) (by simp [results, Tryz.results39, go_sem, y0, y1, y2, y3]) rfl ⟨momPost HE2.out, HBW.out.trans (hb5 _ (Nat.le_refl _))⟩
end Go.Proofs.YtgddhkanfcpipaaGreatDoor

namespace Go.Proofs.YtgddhkanfcpipaaGreatDoor
open Go.RowKit
set_option maxHeartbeats 8000000
set_option maxRecDepth 100000

abbrev datF : ByteArray := ⟨#[100, 100, 100, 100, 45, 100, 100, 45, 100, 100]⟩
def tmV (k d n o : Int) : List Value := [.int .i64 k, .int .i64 d, .int .i64 n, .int .i64 o]
/-- Behind the date and a T. -/
def afterR (d : Nat × Nat) (c : Nat × List UInt8 × Bool × Bool) : List Value × Nat :=
  if c.2.2.1 = false then (tmZ, 3)
  else if c.2.1 = [] then (if d.2 ≠ 0 ∨ c.2.2.2 = false then (tmZ, 2) else (tmV 3 (d.1 : Nat) (c.1 : Nat) 0, 0))
  else if (toR c.2.1).2.1 = false then (tmZ, 3)
  else if d.2 ≠ 0 ∨ (c.2.2.2 && (toR c.2.1).2.2) = false then (tmZ, 2) else (tmV 4 (d.1 : Nat) (c.1 : Nat) (toR c.2.1).1, 0)
def datedR (d : Nat × Nat) (l : List UInt8) : List Value × Nat :=
  match l with
  | [] => if d.2 ≠ 0 then (tmZ, d.2) else (tmV 1 (d.1 : Nat) 0 0, 0)
  | b :: t => if b.toNat = 84 ∨ b.toNat = 116 ∨ b.toNat = 32 then afterR d (tcR t) else (tmZ, 3)
def clockR (c : Nat × List UInt8 × Bool × Bool) : List Value × Nat :=
  if c.2.2.1 = false ∨ c.2.1 ≠ [] then (tmZ, 3) else if c.2.2.2 = false then (tmZ, 2) else (tmV 2 0 (c.1 : Nat) 0, 0)
def rpR (l : List UInt8) : List Value × Nat :=
  if likeB l (L datF) = false then clockR (tcR l)
  else datedR (dayC (valL 0 (l.take 4)) (valL 0 ((l.drop 5).take 2)) (valL 0 ((l.drop 8).take 2))) (l.drop 10)
theorem tcR_len (l : List UInt8) : (tcR l).2.1.length ≤ l.length := by
  unfold tcR
  split
  · exact Nat.zero_le _
  split
  · split
    · exact Nat.zero_le _
    · dsimp only
      rw [List.length_drop]
      omega
  · dsimp only
    rw [List.length_drop]
    omega
theorem dat_digs (l : List UInt8) (h : likeB l (L datF) = true) : 10 ≤ l.length ∧ (l.take 4).all dig = true ∧ ((l.drop 5).take 2).all dig = true ∧ ((l.drop 8).take 2).all dig = true ∧ l[4]? = some 45 ∧ l[7]? = some 45 := by
  have hl : 10 ≤ l.length := likeB_len _ _ h
  obtain ⟨a0, a1, a2, a3, a4, a5, a6, a7, a8, a9, t, rfl⟩ : ∃ a0 a1 a2 a3 a4 a5 a6 a7 a8 a9 t, l = a0 :: a1 :: a2 :: a3 :: a4 :: a5 :: a6 :: a7 :: a8 :: a9 :: t := by
    match l, hl with
    | a0 :: a1 :: a2 :: a3 :: a4 :: a5 :: a6 :: a7 :: a8 :: a9 :: t, _ => exact ⟨a0, a1, a2, a3, a4, a5, a6, a7, a8, a9, t, rfl⟩
  have h' : likeB (a0 :: a1 :: a2 :: a3 :: a4 :: a5 :: a6 :: a7 :: a8 :: a9 :: t) [100, 100, 100, 100, 45, 100, 100, 45, 100, 100] = true := h
  simp [likeB] at h'
  obtain ⟨h0, h1, h2, h3, h4, h5, h6, h7, h8, h9⟩ := h'
  have e4 : a4 = 45 := UInt8.toNat_inj.1 h4
  have e7 : a7 = 45 := UInt8.toNat_inj.1 h7
  refine ⟨hl, ?_, ?_, ?_, ?_, ?_⟩
  · simp [h0, h1, h2, h3]
  · simp [h5, h6]
  · simp [h8, h9]
  · rw [e4]; rfl
  · rw [e7]; rfl
theorem ParseR_any (s : ByteArray) (w : World) (hs : s.size ≤ 1000000000) :
    Calls Tryz.prog 50 #[.string s] w fun e w' => e = .returned (.tuple #[.agg (rpR (L s)).1.toArray, .int .i64 ((rpR (L s)).2 : Nat)]) ∧ Below w.heap.size w w' := by
  have hm : s.size ≤ maxLen := by simp only [maxLen]; omega
  obtain ⟨r, hr⟩ : ∃ r, r = rpR (L s) := ⟨_, rfl⟩
  rw [← hr]
  unfold rpR at hr
  have HLK := Lib.hid (fun w' => like_any s datF w' hs (by decide))
  cases hlk : likeB (L s) (L datF)
  case false =>
    rw [hlk] at HLK
    rw [if_pos hlk] at hr
    have HTC := Lib.hid (fun w' => takeClock_any s w' hs)
    generalize tcR (L s) = c at *
    obtain ⟨n, rl, fm, inn⟩ := c
    dsimp only at HTC
    obtain ⟨rb, hrb⟩ : ∃ rb : ByteArray, (⟨rl.toArray⟩ : ByteArray) = rb := ⟨_, rfl⟩
    have hrl : rl = L rb := by rw [← hrb, L_mk]
    rw [hrb] at HTC
    rw [hrl] at hr
    have HR : Hid (r = if fm = false ∨ L rb ≠ [] then (tmZ, 3) else if inn = false then (tmZ, 2) else (tmV 2 0 (n : Nat) 0, 0)) := hr
    clear hr hlk hrb hrl
    cases fm
    case false =>
      have HF : Hid (r = (tmZ, 3)) := by unfold Hid; rw [HR.out, if_pos (.inl rfl)]
      clear HR
      go_enter Tryz.func50, Tryz.ntmps50
      go_upto_region 1 with fail
      generalize hW1 : World.alloc w _ = w1
      obtain ⟨ha1, -, hz1, hb1⟩ := alloc_of hW1
      have HX : Hid (w1.heap[w.heap.size]? = some (.cells tmZ.toArray 35 (0, 0))) := ha1
      have HB := Lib.hid hb1
      have HZ : Hid (w.heap.size < w1.heap.size) := by unfold Hid; omega
      clear hW1 ha1 hz1 hb1
      go_wp2_with fail
      refine (HLK.out _).mono ?_
      rintro e wn ⟨rfl, hbn⟩
      replace HX := Lib.hid ((hbn.block _ HZ.out).trans HX.out)
      replace HB := Lib.hid (HB.out.trans (hbn.mono HB.out.size))
      replace HZ : Hid (w.heap.size < wn.heap.size) := Nat.lt_of_lt_of_le HZ.out hbn.size
      clear hbn
      clear HLK
      go_wp2_with fail
      refine (HTC.out _).mono ?_
      rintro e wn ⟨rfl, hbn⟩
      replace HX := Lib.hid ((hbn.block _ HZ.out).trans HX.out)
      replace HB := Lib.hid (HB.out.trans (hbn.mono HB.out.size))
      replace HZ : Hid (w.heap.size < wn.heap.size) := Nat.lt_of_lt_of_le HZ.out hbn.size
      clear hbn
      clear HTC
      go_wp2_with (first
        | (refine wpl_store rfl rfl moTm rfl rfl (cs := tmZ) rfl rfl fits_tm HX.out (Nat.le_of_ble_eq_true rfl) (row := tmZ) rfl ?_; generalize hW : World.setRow _ _ _ = w9; have HS := Lib.hid (setRow_of hW HX.out); clear hW))
      obtain ⟨hd5, -, hz5, hb5⟩ := HS.out
      obtain ⟨y0, y1, y2, y3⟩ := row4 hd5
      exact bodyPost_ret (v := .tuple #[.agg (tmZ : List Value).toArray, .int .i64 3]) (by simp [results, Tryz.results50, go_sem, y0, y1, y2, y3]) rfl ⟨momPost HF.out, HB.out.trans (hb5 _ (Nat.le_refl _))⟩
    by_cases he : L rb = []
    case neg =>
      have he1 : rb.toList.isEmpty = false := by rw [empty_L]; simpa using he
      have HF : Hid (r = (tmZ, 3)) := by unfold Hid; rw [HR.out, if_pos (.inr he)]
      clear HR he
      go_enter Tryz.func50, Tryz.ntmps50
      go_upto_region 1 with fail
      generalize hW1 : World.alloc w _ = w1
      obtain ⟨ha1, -, hz1, hb1⟩ := alloc_of hW1
      have HX : Hid (w1.heap[w.heap.size]? = some (.cells tmZ.toArray 35 (0, 0))) := ha1
      have HB := Lib.hid hb1
      have HZ : Hid (w.heap.size < w1.heap.size) := by unfold Hid; omega
      clear hW1 ha1 hz1 hb1
      go_wp2_with fail
      refine (HLK.out _).mono ?_
      rintro e wn ⟨rfl, hbn⟩
      replace HX := Lib.hid ((hbn.block _ HZ.out).trans HX.out)
      replace HB := Lib.hid (HB.out.trans (hbn.mono HB.out.size))
      replace HZ : Hid (w.heap.size < wn.heap.size) := Nat.lt_of_lt_of_le HZ.out hbn.size
      clear hbn
      clear HLK
      go_wp2_with fail
      refine (HTC.out _).mono ?_
      rintro e wn ⟨rfl, hbn⟩
      replace HX := Lib.hid ((hbn.block _ HZ.out).trans HX.out)
      replace HB := Lib.hid (HB.out.trans (hbn.mono HB.out.size))
      replace HZ : Hid (w.heap.size < wn.heap.size) := Nat.lt_of_lt_of_le HZ.out hbn.size
      clear hbn
      clear HTC
      go_wp2_with (first
        | (refine wpl_store rfl rfl moTm rfl rfl (cs := tmZ) rfl rfl fits_tm HX.out (Nat.le_of_ble_eq_true rfl) (row := tmZ) rfl ?_; generalize hW : World.setRow _ _ _ = w9; have HS := Lib.hid (setRow_of hW HX.out); clear hW))
      obtain ⟨hd5, -, hz5, hb5⟩ := HS.out
      obtain ⟨y0, y1, y2, y3⟩ := row4 hd5
      exact bodyPost_ret (v := .tuple #[.agg (tmZ : List Value).toArray, .int .i64 3]) (by simp [results, Tryz.results50, go_sem, y0, y1, y2, y3]) rfl ⟨momPost HF.out, HB.out.trans (hb5 _ (Nat.le_refl _))⟩
    have he1 : rb.toList.isEmpty = true := by rw [empty_L]; simpa using he
    have hne : ¬ (true = false ∨ L rb ≠ []) := by simp [he]
    cases inn
    case false =>
      have HF : Hid (r = (tmZ, 2)) := by unfold Hid; rw [HR.out, if_neg hne, if_pos rfl]
      clear HR he hne
      go_enter Tryz.func50, Tryz.ntmps50
      go_upto_region 1 with fail
      generalize hW1 : World.alloc w _ = w1
      obtain ⟨ha1, -, hz1, hb1⟩ := alloc_of hW1
      have HX : Hid (w1.heap[w.heap.size]? = some (.cells tmZ.toArray 35 (0, 0))) := ha1
      have HB := Lib.hid hb1
      have HZ : Hid (w.heap.size < w1.heap.size) := by unfold Hid; omega
      clear hW1 ha1 hz1 hb1
      go_wp2_with fail
      refine (HLK.out _).mono ?_
      rintro e wn ⟨rfl, hbn⟩
      replace HX := Lib.hid ((hbn.block _ HZ.out).trans HX.out)
      replace HB := Lib.hid (HB.out.trans (hbn.mono HB.out.size))
      replace HZ : Hid (w.heap.size < wn.heap.size) := Nat.lt_of_lt_of_le HZ.out hbn.size
      clear hbn
      clear HLK
      go_wp2_with fail
      refine (HTC.out _).mono ?_
      rintro e wn ⟨rfl, hbn⟩
      replace HX := Lib.hid ((hbn.block _ HZ.out).trans HX.out)
      replace HB := Lib.hid (HB.out.trans (hbn.mono HB.out.size))
      replace HZ : Hid (w.heap.size < wn.heap.size) := Nat.lt_of_lt_of_le HZ.out hbn.size
      clear hbn
      clear HTC
      go_wp2_with (first
        | (refine wpl_store rfl rfl moTm rfl rfl (cs := tmZ) rfl rfl fits_tm HX.out (Nat.le_of_ble_eq_true rfl) (row := tmZ) rfl ?_; generalize hW : World.setRow _ _ _ = w9; have HS := Lib.hid (setRow_of hW HX.out); clear hW))
      obtain ⟨hd5, -, hz5, hb5⟩ := HS.out
      obtain ⟨y0, y1, y2, y3⟩ := row4 hd5
      exact bodyPost_ret (v := .tuple #[.agg (tmZ : List Value).toArray, .int .i64 2]) (by simp [results, Tryz.results50, go_sem, y0, y1, y2, y3]) rfl ⟨momPost HF.out, HB.out.trans (hb5 _ (Nat.le_refl _))⟩
    case true =>
      have HF : Hid (r = ([.int .i64 2, .int .i64 0, .int .i64 ((n : Nat) : Int), .int .i64 0], 0)) := by unfold Hid; rw [HR.out, if_neg hne, if_neg (by simp)]; rfl
      clear HR he hne
      go_enter Tryz.func50, Tryz.ntmps50
      go_upto_region 1 with fail
      generalize hW1 : World.alloc w _ = w1
      obtain ⟨ha1, -, hz1, hb1⟩ := alloc_of hW1
      have HX : Hid (w1.heap[w.heap.size]? = some (.cells tmZ.toArray 35 (0, 0))) := ha1
      have HB := Lib.hid hb1
      have HZ : Hid (w.heap.size < w1.heap.size) := by unfold Hid; omega
      clear hW1 ha1 hz1 hb1
      go_wp2_with fail
      refine (HLK.out _).mono ?_
      rintro e wn ⟨rfl, hbn⟩
      replace HX := Lib.hid ((hbn.block _ HZ.out).trans HX.out)
      replace HB := Lib.hid (HB.out.trans (hbn.mono HB.out.size))
      replace HZ : Hid (w.heap.size < wn.heap.size) := Nat.lt_of_lt_of_le HZ.out hbn.size
      clear hbn
      clear HLK
      go_wp2_with fail
      refine (HTC.out _).mono ?_
      rintro e wn ⟨rfl, hbn⟩
      replace HX := Lib.hid ((hbn.block _ HZ.out).trans HX.out)
      replace HB := Lib.hid (HB.out.trans (hbn.mono HB.out.size))
      replace HZ : Hid (w.heap.size < wn.heap.size) := Nat.lt_of_lt_of_le HZ.out hbn.size
      clear hbn
      clear HTC
      go_wp2_with (first
        | (refine wpl_store rfl rfl moTm rfl rfl (cs := [.int .i64 2, .int .i64 0, .int .i64 ((n : Nat) : Int), .int .i64 0]) rfl rfl (one4 _ _ _ _) HX.out (Nat.le_of_ble_eq_true rfl) (row := [.int .i64 2, .int .i64 0, .int .i64 ((n : Nat) : Int), .int .i64 0]) rfl ?_; generalize hW : World.setRow _ _ _ = w9; have HS := Lib.hid (setRow_of hW HX.out); clear hW))
      obtain ⟨hd5, -, hz5, hb5⟩ := HS.out
      obtain ⟨y0, y1, y2, y3⟩ := row4 hd5
      exact bodyPost_ret (v := .tuple #[.agg ([.int .i64 2, .int .i64 0, .int .i64 ((n : Nat) : Int), .int .i64 0] : List Value).toArray, .int .i64 0]) (by simp [results, Tryz.results50, go_sem, y0, y1, y2, y3]) rfl ⟨momPost HF.out, HB.out.trans (hb5 _ (Nat.le_refl _))⟩
  obtain ⟨h10, d1, d2, d3, -, -⟩ := dat_digs _ hlk
  rw [L_len] at h10
  rw [if_neg (by rw [hlk]; simp)] at hr
  rw [hlk] at HLK
  have N1 := Lib.hid (fun w' => (number5_any (s.extract 0 4) w' (by rw [ByteArray.size_extract]; omega) (by rw [L_upto]; exact d1)).mono fun e w2 h => (⟨h.1, h.2.symm⟩ : _ ∧ w2 = w'))
  have N2 := Lib.hid (fun w' => (number5_any (s.extract 5 7) w' (by rw [ByteArray.size_extract]; omega) (by rw [L_extract]; exact d2)).mono fun e w2 h => (⟨h.1, h.2.symm⟩ : _ ∧ w2 = w'))
  have N3 := Lib.hid (fun w' => (number5_any (s.extract 8 10) w' (by rw [ByteArray.size_extract]; omega) (by rw [L_extract]; exact d3)).mono fun e w2 h => (⟨h.1, h.2.symm⟩ : _ ∧ w2 = w'))
  rw [L_upto] at N1
  rw [L_extract] at N2 N3
  have b1 := valL_lt ((L s).take 4) 0 (fun c hc => List.all_eq_true.1 d1 c hc)
  have b2 := valL_lt (((L s).drop 5).take 2) 0 (fun c hc => List.all_eq_true.1 d2 c hc)
  have b3 := valL_lt (((L s).drop 8).take 2) 0 (fun c hc => List.all_eq_true.1 d3 c hc)
  rw [List.length_take, Nat.min_eq_left (by rw [L_len]; omega)] at b1
  rw [List.length_take, Nat.min_eq_left (by rw [List.length_drop, L_len]; omega)] at b2 b3
  have e10 : (10 : Nat) ^ 2 = 100 := rfl
  have e104 : (10 : Nat) ^ 4 = 10000 := rfl
  rw [e10] at b2 b3
  rw [e104] at b1
  generalize valL 0 ((L s).take 4) = yy at *
  generalize valL 0 (List.take (7 - 5) (List.drop 5 (L s))) = mo at *
  generalize valL 0 (List.take (10 - 8) (List.drop 8 (L s))) = dd at *
  have ND := Lib.hid (fun w' => (DayR_any yy mo dd w' (by omega) (by omega) (by omega)).mono fun e w2 h => (⟨h.1, h.2.symm⟩ : _ ∧ w2 = w'))
  have hde : (dayC yy mo dd).2 = 0 ∨ (dayC yy mo dd).2 = 2 := by
    unfold dayC
    split
    · exact .inr rfl
    · exact .inl rfl
  generalize dayC yy mo dd = dc at *
  obtain ⟨dy, de⟩ := dc
  dsimp only at ND hde
  obtain ⟨s10, hs10⟩ : ∃ s10, s10 = s.extract 10 s.size := ⟨_, rfl⟩
  have hl10 : L s10 = (L s).drop 10 := by rw [hs10, L_from]
  have hz10 : s10.size = s.size - 10 := by rw [← L_len, hl10, List.length_drop, L_len]
  rw [← hl10] at hr
  have h10m : s10.size ≤ maxLen := by omega
  have h10k : s10.size ≤ 1000000000 := by omega
  have HS10 := Lib.hid hs10
  have HR := Lib.hid hr
  have h10i : (10 : Int) ≤ (s.size : Int) := by omega
  clear hr hlk d1 d2 d3 b1 b2 b3 e10 e104 hs10 hl10 hz10
  go_enter Tryz.func50, Tryz.ntmps50
  go_upto_region 1 with fail
  generalize hW1 : World.alloc w _ = w1
  obtain ⟨ha1, -, hz1, hb1⟩ := alloc_of hW1
  have HX : Hid (w1.heap[w.heap.size]? = some (.cells tmZ.toArray 35 (0, 0))) := ha1
  have HB := Lib.hid hb1
  have HZ : Hid (w.heap.size < w1.heap.size) := by unfold Hid; omega
  clear hW1 ha1 hz1 hb1
  go_wp2_with fail
  refine (HLK.out _).mono ?_
  rintro e wn ⟨rfl, hbn⟩
  replace HX := Lib.hid ((hbn.block _ HZ.out).trans HX.out)
  replace HB := Lib.hid (HB.out.trans (hbn.mono HB.out.size))
  replace HZ : Hid (w.heap.size < wn.heap.size) := Nat.lt_of_lt_of_le HZ.out hbn.size
  clear hbn
  clear HLK
  go_wp2_with fail
  go_quiet (first
    | (go_at_call 105; with_reducible exact Calls.quiet_of_same (N1.out _))
    | (go_at_call 105; with_reducible exact Calls.quiet_of_same (N2.out _))
    | (go_at_call 105; with_reducible exact Calls.quiet_of_same (N3.out _))
    | (go_at_call 104; with_reducible exact Calls.quiet_of_same (ND.out _)))
  generalize hWD : World.drewN _ _ = w3
  have HX3 : Hid (w3.heap[w.heap.size]? = some (.cells tmZ.toArray 35 (0, 0))) := by unfold Hid; rw [← hWD, drewN_heap]; exact HX.out
  have HB3 : Hid (Below w.heap.size w w3) := by unfold Hid; rw [← hWD]; exact HB.out.trans (drewN_below _ _ _)
  have HZ3 : Hid (w.heap.size < w3.heap.size) := by unfold Hid; rw [← hWD, drewN_heap]; exact HZ.out
  clear hWD N1 N2 N3 ND HX HB HZ
  have HX := HX3
  have HB := HB3
  have HZ := HZ3
  clear HX3 HB3 HZ3
  go_upto_region 9 with fail
  go_cut [0] (fun v wx => v = .string s10 ∧ w3 = wx)
  case first =>
    go_wp2_with fail
    go_meet
    exact ⟨congrArg Value.string HS10.out.symm, rfl⟩
  case rest =>
  obtain ⟨hv, rfl⟩ := hcut
  subst hv
  clear HS10 h10i h10
  by_cases he : L s10 = []
  case pos =>
    have he1 : s10.toList.isEmpty = true := by rw [empty_L]; simpa using he
    have HR2 : Hid (r = if de ≠ 0 then (tmZ, de) else (tmV 1 (dy : Nat) 0 0, 0)) := by unfold Hid; rw [HR.out, he]; rfl
    clear HR he
    by_cases hd0 : de = 0
    case neg =>
      have gd : ((de : Int) != 0) = true := by rw [bne_iff_ne]; omega
      have HF : Hid (r = (tmZ, de)) := by unfold Hid; rw [HR2.out, if_pos hd0]
      clear HR2 hd0 hde
      go_wp2_with (first
        | (refine wpl_store rfl rfl moTm rfl rfl (cs := tmZ) rfl rfl fits_tm HX.out (Nat.le_of_ble_eq_true rfl) (row := tmZ) rfl ?_; generalize hW : World.setRow _ _ _ = w9; have HS := Lib.hid (setRow_of hW HX.out); clear hW))
      obtain ⟨hd5, -, hz5, hb5⟩ := HS.out
      obtain ⟨y0, y1, y2, y3⟩ := row4 hd5
      exact bodyPost_ret (v := .tuple #[.agg (tmZ : List Value).toArray, .int .i64 (de : Nat)]) (by simp [results, Tryz.results50, go_sem, y0, y1, y2, y3]) rfl ⟨momPost HF.out, HB.out.trans (hb5 _ (Nat.le_refl _))⟩
    have gd : ((de : Int) != 0) = false := by rw [bne_eq_false_iff_eq]; omega
    have HF : Hid (r = ([.int .i64 1, .int .i64 ((dy : Nat) : Int), .int .i64 0, .int .i64 0], 0)) := by unfold Hid; rw [HR2.out, if_neg (by simpa using hd0)]; rfl
    clear HR2 hd0 hde
    go_wp2_with (first
      | (refine wpl_store rfl rfl moTm rfl rfl (cs := [.int .i64 1, .int .i64 ((dy : Nat) : Int), .int .i64 0, .int .i64 0]) rfl rfl (one4 _ _ _ _) HX.out (Nat.le_of_ble_eq_true rfl) (row := [.int .i64 1, .int .i64 ((dy : Nat) : Int), .int .i64 0, .int .i64 0]) rfl ?_; generalize hW : World.setRow _ _ _ = w9; have HS := Lib.hid (setRow_of hW HX.out); clear hW))
    obtain ⟨hd5, -, hz5, hb5⟩ := HS.out
    obtain ⟨y0, y1, y2, y3⟩ := row4 hd5
    exact bodyPost_ret (v := .tuple #[.agg ([.int .i64 1, .int .i64 ((dy : Nat) : Int), .int .i64 0, .int .i64 0] : List Value).toArray, .int .i64 0]) (by simp [results, Tryz.results50, go_sem, y0, y1, y2, y3]) rfl ⟨momPost HF.out, HB.out.trans (hb5 _ (Nat.le_refl _))⟩
  have he1 : s10.toList.isEmpty = false := by rw [empty_L]; simpa using he
  have hp := size_pos he
  have h0 := L_drop s10 0 hp
  rw [List.drop_zero, Nat.zero_add] at h0
  have hs1 : L (s10.extract 1 s10.size) = (L s10).drop 1 := L_from _ _
  have HR2 : Hid (r = if s10[0].toNat = 84 ∨ s10[0].toNat = 116 ∨ s10[0].toNat = 32 then afterR (dy, de) (tcR (L (s10.extract 1 s10.size))) else (tmZ, 3)) := by
    unfold Hid
    rw [HR.out, hs1]
    conv => lhs; rw [h0]
    rfl
  clear HR he h0 hs1
  by_cases hT : s10[0].toNat = 84 ∨ s10[0].toNat = 116 ∨ s10[0].toNat = 32
  case neg =>
    have q1 := bneNB s10[0] 84 (by omega)
    have q2 := bneNB s10[0] 116 (by omega)
    have q3 := bneNB s10[0] 32 (by omega)
    have HF : Hid (r = (tmZ, 3)) := by unfold Hid; rw [HR2.out, if_neg hT]
    clear HR2 hT hde
    go_wp2_with (first
      | (refine wpl_store rfl rfl moTm rfl rfl (cs := tmZ) rfl rfl fits_tm HX.out (Nat.le_of_ble_eq_true rfl) (row := tmZ) rfl ?_; generalize hW : World.setRow _ _ _ = w9; have HS := Lib.hid (setRow_of hW HX.out); clear hW))
    obtain ⟨hd5, -, hz5, hb5⟩ := HS.out
    obtain ⟨y0, y1, y2, y3⟩ := row4 hd5
    exact bodyPost_ret (v := .tuple #[.agg (tmZ : List Value).toArray, .int .i64 3]) (by simp [results, Tryz.results50, go_sem, y0, y1, y2, y3]) rfl ⟨momPost HF.out, HB.out.trans (hb5 _ (Nat.le_refl _))⟩
  replace HR2 := Lib.hid (HR2.out.trans (if_pos hT))
  have HTC := Lib.hid (fun w' => takeClock_any (s10.extract 1 s10.size) w' (by rw [ByteArray.size_extract]; omega))
  have hcl := tcR_len (L (s10.extract 1 s10.size))
  generalize tcR (L (s10.extract 1 s10.size)) = c at *
  obtain ⟨n, rl, fm, inn⟩ := c
  dsimp only at HTC hcl
  obtain ⟨rb, hrb⟩ : ∃ rb : ByteArray, (⟨rl.toArray⟩ : ByteArray) = rb := ⟨_, rfl⟩
  have hrl : rl = L rb := by rw [← hrb, L_mk]
  rw [hrb] at HTC
  rw [hrl] at HR2
  have HRB : Hid (rb.size ≤ 1000000000) := by
    unfold Hid
    rw [← L_len, ← hrl]
    exact Nat.le_trans hcl (by rw [L_len, ByteArray.size_extract]; omega)
  clear hcl
  have HR3 : Hid (r = if fm = false then (tmZ, 3) else if L rb = [] then (if de ≠ 0 ∨ inn = false then (tmZ, 2) else (tmV 3 (dy : Nat) (n : Nat) 0, 0))
      else if (toR (L rb)).2.1 = false then (tmZ, 3) else if de ≠ 0 ∨ (inn && (toR (L rb)).2.2) = false then (tmZ, 2) else (tmV 4 (dy : Nat) (n : Nat) (toR (L rb)).1, 0)) := HR2.out
  clear HR2 hrb hrl
  have hway : ((s10[0].toNat : Int) != 84) = false ∨ (((s10[0].toNat : Int) != 84) = true ∧ ((s10[0].toNat : Int) != 116) = false) ∨ (((s10[0].toNat : Int) != 84) = true ∧ ((s10[0].toNat : Int) != 116) = true ∧ ((s10[0].toNat : Int) != 32) = false) := by
    simp only [bne_eq_false_iff_eq, bne_iff_ne]
    omega
  clear hT
  rcases hway with q1 | ⟨q1, q2⟩ | ⟨q1, q2, q3⟩
  all_goals
    go_wp2_with fail
    refine (HTC.out _).mono ?_
    rintro e wn ⟨rfl, hbn⟩
    replace HX := Lib.hid ((hbn.block _ HZ.out).trans HX.out)
    replace HB := Lib.hid (HB.out.trans (hbn.mono HB.out.size))
    replace HZ : Hid (w.heap.size < wn.heap.size) := Nat.lt_of_lt_of_le HZ.out hbn.size
    clear hbn
    clear HTC
    cases fm
    · have HF : Hid (r = (tmZ, 3)) := by unfold Hid; rw [HR3.out, if_pos rfl]
      clear HR3 hde
      go_wp2_with (first
        | (refine wpl_store rfl rfl moTm rfl rfl (cs := tmZ) rfl rfl fits_tm HX.out (Nat.le_of_ble_eq_true rfl) (row := tmZ) rfl ?_; generalize hW : World.setRow _ _ _ = w9; have HS := Lib.hid (setRow_of hW HX.out); clear hW))
      obtain ⟨hd5, -, hz5, hb5⟩ := HS.out
      obtain ⟨y0, y1, y2, y3⟩ := row4 hd5
      exact bodyPost_ret (v := .tuple #[.agg (tmZ : List Value).toArray, .int .i64 3]) (by simp [results, Tryz.results50, go_sem, y0, y1, y2, y3]) rfl ⟨momPost HF.out, HB.out.trans (hb5 _ (Nat.le_refl _))⟩
    replace HR3 := Lib.hid (HR3.out.trans (if_neg (by simp)))
    go_upto_region 20 with fail
    generalize hW5 : World.alloc wn _ = w5
    obtain ⟨ha5, -, hz5, hb5⟩ := alloc_of hW5
    obtain ⟨g14, hg14⟩ : ∃ g14, g14 = wn.heap.size := ⟨_, rfl⟩
    rw [← hg14] at ha5 ⊢
    have HT : Hid (w5.heap[g14]? = some (.cells [.int .i64 3, .int .i64 ((dy : Nat) : Int), .int .i64 ((n : Nat) : Int), .int .i64 0].toArray 35 (0, 0))) := ha5
    have HG : Hid (w.heap.size < g14) := by unfold Hid; rw [hg14]; exact HZ.out
    replace HX := Lib.hid ((hb5.block _ HZ.out).trans HX.out)
    replace HB := Lib.hid (HB.out.trans (hb5.mono HB.out.size))
    replace HZ : Hid (w.heap.size < w5.heap.size) := Nat.lt_of_lt_of_le HZ.out hb5.size
    clear hW5 ha5 hz5 hb5 hg14
    by_cases he : L rb = []
    · have he1 : rb.toList.isEmpty = true := by rw [empty_L]; simpa using he
      replace HR3 := Lib.hid (HR3.out.trans (if_pos he))
      clear he
      by_cases hd0 : de = 0
      · have gd : ((de : Int) != 0) = false := by rw [bne_eq_false_iff_eq]; omega
        cases inn
        · have HF : Hid (r = (tmZ, 2)) := by unfold Hid; rw [HR3.out, if_pos (.inr rfl)]
          clear HR3 hde hd0
          go_wp2_with (first
            | (refine wpl_store rfl rfl moTm rfl rfl (cs := tmZ) rfl rfl fits_tm HX.out (Nat.le_of_ble_eq_true rfl) (row := tmZ) rfl ?_; generalize hW : World.setRow _ _ _ = w9; have HS := Lib.hid (setRow_of hW HX.out); clear hW))
          obtain ⟨hd5, -, hz5, hb5⟩ := HS.out
          obtain ⟨y0, y1, y2, y3⟩ := row4 hd5
          exact bodyPost_ret (v := .tuple #[.agg (tmZ : List Value).toArray, .int .i64 2]) (by simp [results, Tryz.results50, go_sem, y0, y1, y2, y3]) rfl ⟨momPost HF.out, HB.out.trans (hb5 _ (Nat.le_refl _))⟩
        · have HF : Hid (r = ([.int .i64 3, .int .i64 ((dy : Nat) : Int), .int .i64 ((n : Nat) : Int), .int .i64 0], 0)) := by unfold Hid; rw [HR3.out, if_neg (by simp [hd0])]; rfl
          clear HR3 hde hd0
          have HC : Hid (∀ j, j < 4 → w5.cell? ⟨g14, 0 + j, none⟩ = ([.int .i64 3, .int .i64 ((dy : Nat) : Int), .int .i64 ((n : Nat) : Int), .int .i64 0] : List Value)[j]?) := by
            intro j hj
            rw [Nat.zero_add, cell_of_row _ _ _ _ _ _ HT.out, List.getElem?_toArray]
          go_wp2_with (first
            | refine wpl_load rfl rfl stTm rfl (cs := [.int .i64 3, .int .i64 ((dy : Nat) : Int), .int .i64 ((n : Nat) : Int), .int .i64 0]) rfl HC.out ?_
            | (refine wpl_store rfl rfl moTm rfl rfl (cs := [.int .i64 3, .int .i64 ((dy : Nat) : Int), .int .i64 ((n : Nat) : Int), .int .i64 0]) rfl rfl (one4 _ _ _ _) HX.out (Nat.le_of_ble_eq_true rfl) (row := [.int .i64 3, .int .i64 ((dy : Nat) : Int), .int .i64 ((n : Nat) : Int), .int .i64 0]) rfl ?_; generalize hW : World.setRow _ _ _ = w9; have HS := Lib.hid (setRow_of hW HX.out); clear hW))
          obtain ⟨hd5, -, hz5, hb5⟩ := HS.out
          obtain ⟨y0, y1, y2, y3⟩ := row4 hd5
          exact bodyPost_ret (v := .tuple #[.agg ([.int .i64 3, .int .i64 ((dy : Nat) : Int), .int .i64 ((n : Nat) : Int), .int .i64 0] : List Value).toArray, .int .i64 0]) (by simp [results, Tryz.results50, go_sem, y0, y1, y2, y3]) rfl ⟨momPost HF.out, HB.out.trans (hb5 _ (Nat.le_refl _))⟩
      · have gd : ((de : Int) != 0) = true := by rw [bne_iff_ne]; omega
        have HF : Hid (r = (tmZ, 2)) := by unfold Hid; rw [HR3.out, if_pos (.inl hd0)]
        clear HR3 hde hd0
        go_wp2_with (first
          | (refine wpl_store rfl rfl moTm rfl rfl (cs := tmZ) rfl rfl fits_tm HX.out (Nat.le_of_ble_eq_true rfl) (row := tmZ) rfl ?_; generalize hW : World.setRow _ _ _ = w9; have HS := Lib.hid (setRow_of hW HX.out); clear hW))
        obtain ⟨hd5, -, hz5, hb5⟩ := HS.out
        obtain ⟨y0, y1, y2, y3⟩ := row4 hd5
        exact bodyPost_ret (v := .tuple #[.agg (tmZ : List Value).toArray, .int .i64 2]) (by simp [results, Tryz.results50, go_sem, y0, y1, y2, y3]) rfl ⟨momPost HF.out, HB.out.trans (hb5 _ (Nat.le_refl _))⟩
    have he1 : rb.toList.isEmpty = false := by rw [empty_L]; simpa using he
    replace HR3 := Lib.hid (HR3.out.trans (if_neg he))
    have HTO := Lib.hid (fun w' => takeOffset_any rb w' HRB.out)
    generalize toR (L rb) = oo at *
    obtain ⟨ov, fo, is⟩ := oo
    dsimp only at HTO
    have HR4 : Hid (r = if fo = false then (tmZ, 3) else if de ≠ 0 ∨ (inn && is) = false then (tmZ, 2) else (tmV 4 (dy : Nat) (n : Nat) ov, 0)) := HR3.out
    clear HR3 he
    go_wp2_with fail
    refine (HTO.out _).mono ?_
    rintro e wm ⟨rfl, hbn⟩
    have hgl : g14 < w5.heap.size := (Array.getElem?_eq_some_iff.1 HT.out).1
    replace HT := Lib.hid ((hbn.block _ hgl).trans HT.out)
    replace HX := Lib.hid ((hbn.block _ HZ.out).trans HX.out)
    replace HB := Lib.hid (HB.out.trans (hbn.mono HB.out.size))
    replace HZ : Hid (w.heap.size < wm.heap.size) := Nat.lt_of_lt_of_le HZ.out hbn.size
    clear hbn
    clear HTO hgl
    cases fo
    · have HF : Hid (r = (tmZ, 3)) := by unfold Hid; rw [HR4.out, if_pos rfl]
      clear HR4 hde
      go_wp2_with (first
        | (refine wpl_store rfl rfl moTm rfl rfl (cs := tmZ) rfl rfl fits_tm HX.out (Nat.le_of_ble_eq_true rfl) (row := tmZ) rfl ?_; generalize hW : World.setRow _ _ _ = w9; have HS := Lib.hid (setRow_of hW HX.out); clear hW))
      obtain ⟨hd5, -, hz5, hb5⟩ := HS.out
      obtain ⟨y0, y1, y2, y3⟩ := row4 hd5
      exact bodyPost_ret (v := .tuple #[.agg (tmZ : List Value).toArray, .int .i64 3]) (by simp [results, Tryz.results50, go_sem, y0, y1, y2, y3]) rfl ⟨momPost HF.out, HB.out.trans (hb5 _ (Nat.le_refl _))⟩
    replace HR4 := Lib.hid (HR4.out.trans (if_neg (by simp)))
    go_upto_region 25 with (refine wpl_store rfl rfl moI rfl rfl (cs := [.int .i64 (4)]) rfl rfl (one_cell rfl) HT.out (Nat.le_of_ble_eq_true rfl) (row := [.int .i64 4, .int .i64 ((dy : Nat) : Int), .int .i64 ((n : Nat) : Int), .int .i64 0]) rfl ?_; generalize hW : World.setRow _ _ _ = ws; have hs9 := setRow_of hW HT.out; replace HX := Lib.hid ((hs9.2.1 _ (by have := HG.out; omega)).trans HX.out); replace HB := Lib.hid (HB.out.trans (hs9.2.2.2 _ (by have := HG.out; omega))); replace HT := Lib.hid hs9.1; clear hs9 hW)
    go_upto_region 26 with (refine wpl_store rfl rfl moI rfl rfl (cs := [.int .i64 (ov)]) rfl rfl (one_cell rfl) HT.out (Nat.le_of_ble_eq_true rfl) (row := [.int .i64 4, .int .i64 ((dy : Nat) : Int), .int .i64 ((n : Nat) : Int), .int .i64 ov]) rfl ?_; generalize hW : World.setRow _ _ _ = ws; have hs9 := setRow_of hW HT.out; replace HX := Lib.hid ((hs9.2.1 _ (by have := HG.out; omega)).trans HX.out); replace HB := Lib.hid (HB.out.trans (hs9.2.2.2 _ (by have := HG.out; omega))); replace HT := Lib.hid hs9.1; clear hs9 hW)
    go_simp
    by_cases hd0 : de = 0
    · have gd : ((de : Int) != 0) = false := by rw [bne_eq_false_iff_eq]; omega
      cases hii : (inn && is)
      · have HF : Hid (r = (tmZ, 2)) := by unfold Hid; rw [HR4.out, if_pos (.inr hii)]
        clear HR4 hde hd0
        cases inn
        · clear hii
          go_wp2_with (first
            | (refine wpl_store rfl rfl moTm rfl rfl (cs := tmZ) rfl rfl fits_tm HX.out (Nat.le_of_ble_eq_true rfl) (row := tmZ) rfl ?_; generalize hW : World.setRow _ _ _ = w9; have HS := Lib.hid (setRow_of hW HX.out); clear hW))
          obtain ⟨hd5, -, hz5, hb5⟩ := HS.out
          obtain ⟨y0, y1, y2, y3⟩ := row4 hd5
          exact bodyPost_ret (v := .tuple #[.agg (tmZ : List Value).toArray, .int .i64 2]) (by simp [results, Tryz.results50, go_sem, y0, y1, y2, y3]) rfl ⟨momPost HF.out, HB.out.trans (hb5 _ (Nat.le_refl _))⟩
        · have his : is = false := by simpa using hii
          subst his
          clear hii
          go_wp2_with (first
            | (refine wpl_store rfl rfl moTm rfl rfl (cs := tmZ) rfl rfl fits_tm HX.out (Nat.le_of_ble_eq_true rfl) (row := tmZ) rfl ?_; generalize hW : World.setRow _ _ _ = w9; have HS := Lib.hid (setRow_of hW HX.out); clear hW))
          obtain ⟨hd5, -, hz5, hb5⟩ := HS.out
          obtain ⟨y0, y1, y2, y3⟩ := row4 hd5
          exact bodyPost_ret (v := .tuple #[.agg (tmZ : List Value).toArray, .int .i64 2]) (by simp [results, Tryz.results50, go_sem, y0, y1, y2, y3]) rfl ⟨momPost HF.out, HB.out.trans (hb5 _ (Nat.le_refl _))⟩
      · have HF : Hid (r = ([.int .i64 4, .int .i64 ((dy : Nat) : Int), .int .i64 ((n : Nat) : Int), .int .i64 ov], 0)) := by unfold Hid; rw [HR4.out, if_neg (by simp [hd0, hii])]; rfl
        rw [Bool.and_eq_true] at hii
        obtain ⟨h1, h2⟩ := hii
        subst h1 h2
        clear HR4 hde hd0
        have HC : Hid (∀ j, j < 4 → ws.cell? ⟨g14, 0 + j, none⟩ = ([.int .i64 4, .int .i64 ((dy : Nat) : Int), .int .i64 ((n : Nat) : Int), .int .i64 ov] : List Value)[j]?) := by
          intro j hj
          rw [Nat.zero_add, cell_of_row _ _ _ _ _ _ HT.out, List.getElem?_toArray]
        go_wp2_with (first
          | refine wpl_load rfl rfl stTm rfl (cs := [.int .i64 4, .int .i64 ((dy : Nat) : Int), .int .i64 ((n : Nat) : Int), .int .i64 ov]) rfl HC.out ?_
          | (refine wpl_store rfl rfl moTm rfl rfl (cs := [.int .i64 4, .int .i64 ((dy : Nat) : Int), .int .i64 ((n : Nat) : Int), .int .i64 ov]) rfl rfl (one4 _ _ _ _) HX.out (Nat.le_of_ble_eq_true rfl) (row := [.int .i64 4, .int .i64 ((dy : Nat) : Int), .int .i64 ((n : Nat) : Int), .int .i64 ov]) rfl ?_; generalize hW : World.setRow _ _ _ = w9; have HS := Lib.hid (setRow_of hW HX.out); clear hW))
        obtain ⟨hd5, -, hz5, hb5⟩ := HS.out
        obtain ⟨y0, y1, y2, y3⟩ := row4 hd5
        exact bodyPost_ret (v := .tuple #[.agg ([.int .i64 4, .int .i64 ((dy : Nat) : Int), .int .i64 ((n : Nat) : Int), .int .i64 ov] : List Value).toArray, .int .i64 0]) (by simp [results, Tryz.results50, go_sem, y0, y1, y2, y3]) rfl ⟨momPost HF.out, HB.out.trans (hb5 _ (Nat.le_refl _))⟩
    · have gd : ((de : Int) != 0) = true := by rw [bne_iff_ne]; omega
      have HF : Hid (r = (tmZ, 2)) := by unfold Hid; rw [HR4.out, if_pos (.inl hd0)]
      clear HR4 hde hd0
      cases inn
      · skip
        go_wp2_with (first
          | (refine wpl_store rfl rfl moTm rfl rfl (cs := tmZ) rfl rfl fits_tm HX.out (Nat.le_of_ble_eq_true rfl) (row := tmZ) rfl ?_; generalize hW : World.setRow _ _ _ = w9; have HS := Lib.hid (setRow_of hW HX.out); clear hW))
        obtain ⟨hd5, -, hz5, hb5⟩ := HS.out
        obtain ⟨y0, y1, y2, y3⟩ := row4 hd5
        exact bodyPost_ret (v := .tuple #[.agg (tmZ : List Value).toArray, .int .i64 2]) (by simp [results, Tryz.results50, go_sem, y0, y1, y2, y3]) rfl ⟨momPost HF.out, HB.out.trans (hb5 _ (Nat.le_refl _))⟩
      · skip
        go_wp2_with (first
          | (refine wpl_store rfl rfl moTm rfl rfl (cs := tmZ) rfl rfl fits_tm HX.out (Nat.le_of_ble_eq_true rfl) (row := tmZ) rfl ?_; generalize hW : World.setRow _ _ _ = w9; have HS := Lib.hid (setRow_of hW HX.out); clear hW))
        obtain ⟨hd5, -, hz5, hb5⟩ := HS.out
        obtain ⟨y0, y1, y2, y3⟩ := row4 hd5
        exact bodyPost_ret (v := .tuple #[.agg (tmZ : List Value).toArray, .int .i64 2]) (by simp [results, Tryz.results50, go_sem, y0, y1, y2, y3]) rfl ⟨momPost HF.out, HB.out.trans (hb5 _ (Nat.le_refl _))⟩
end Go.Proofs.YtgddhkanfcpipaaGreatDoor

namespace Go.Proofs.YtgddhkanfcpipaaGreatDoor
open Go.RowKit
set_option maxHeartbeats 1000000
set_option maxRecDepth 100000

/-! A reader that is bad stays bad. -/
theorem numS_bad (k : Nat) (x : ByteArray × Bool) (h : x.2 = true) : (numS k x).2.2 = true := by
  unfold numS
  split
  · exact h
  · rfl
theorem oneS_bad (of : ByteArray) (x : ByteArray × Bool) (h : x.2 = true) : (oneS of x).2.2 = true := by
  unfold oneS
  split
  · rfl
  split
  · exact h
  · rfl
theorem fracS_bad (x : ByteArray × Bool) (h : x.2 = true) : (fracS x).2.2 = true := by
  unfold fracS
  split
  · rfl
  · exact h
theorem hmsS_bad (x : ByteArray × Bool) (f : Fl) (h : x.2 = true) : (hmsS x f).1.2 = true := numS_bad _ _ (oneS_bad _ _ (numS_bad _ _ (oneS_bad _ _ (numS_bad _ _ h))))
theorem dotS_bad (y : (ByteArray × Bool) × Fl) (h : y.1.2 = true) : (dotS y).1.2 = true := by
  unfold dotS
  split
  · exact fracS_bad _ h
  · exact h
theorem clockS_bad (x : ByteArray × Bool) (f : Fl) (h : x.2 = true) : (clockS x f).1.2 = true := dotS_bad _ (hmsS_bad _ _ h)
theorem offS_bad (x : ByteArray × Bool) (f : Fl) (h : x.2 = true) : (offS x f).1.2 = true := by
  unfold offS
  split
  · exact numS_bad _ _ (oneS_bad _ _ (numS_bad _ _ (oneS_bad _ _ h)))
  · exact oneS_bad _ _ h
/-! Steps. -/
theorem num_ok (k : Nat) (x : ByteArray × Bool) (h1 : k ≤ (L x.1).length) (h2 : ((L x.1).take k).all dig = true) : numS k x = (valL 0 ((L x.1).take k), x.1.extract k x.1.size, x.2) := by
  unfold numS numOK
  rw [L_len] at h1
  rw [if_pos (by rw [decide_eq_true h1, h2]; rfl)]
theorem num_no (k : Nat) (x : ByteArray × Bool) (h : ¬ (k ≤ (L x.1).length ∧ ((L x.1).take k).all dig = true)) : (numS k x).2.2 = true := by
  unfold numS numOK
  rw [L_len] at h
  rw [if_neg]
  intro h'
  rw [Bool.and_eq_true] at h'
  exact h ⟨of_decide_eq_true h'.1, h'.2⟩
theorem one_ok (of : ByteArray) (x : ByteArray × Bool) (c : UInt8) (h1 : (L x.1).head? = some c) (h2 : (L of).contains c = true) : oneS of x = (c.toNat, x.1.extract 1 x.1.size, x.2) := by
  unfold oneS
  rw [h1]
  dsimp only
  rw [if_pos h2]
theorem one_no (of : ByteArray) (x : ByteArray × Bool) (h : ∀ c, (L x.1).head? = some c → (L of).contains c = false) : (oneS of x).2.2 = true := by
  unfold oneS
  split
  · rfl
  · rename_i c hc
    rw [if_neg (by rw [h c hc]; simp)]
theorem ext_ext (s : ByteArray) (a b : Nat) : (s.extract a s.size).extract b (s.extract a s.size).size = s.extract (a + b) s.size := by
  apply L_inj
  rw [L_from, L_from, L_from, List.drop_drop]
theorem ext_zero (s : ByteArray) : s.extract 0 s.size = s := by
  apply L_inj
  rw [L_from, List.drop_zero]
theorem num_at (s : ByteArray) (a k : Nat) (h1 : a + k ≤ s.size) (h2 : (((L s).drop a).take k).all dig = true) : numS k (s.extract a s.size, false) = (valL 0 (((L s).drop a).take k), s.extract (a + k) s.size, false) := by
  rw [num_ok k (s.extract a s.size, false) (by dsimp only; rw [L_from, List.length_drop, L_len]; omega) (by dsimp only; rw [L_from]; exact h2)]
  dsimp only
  rw [L_from, ext_ext]
theorem one_at (of s : ByteArray) (a : Nat) (c : UInt8) (h1 : (L s)[a]? = some c) (h2 : (L of).contains c = true) : oneS of (s.extract a s.size, false) = (c.toNat, s.extract (a + 1) s.size, false) := by
  rw [one_ok of (s.extract a s.size, false) c (by dsimp only; rw [L_from, List.head?_drop]; exact h1) h2]
  dsimp only
  rw [ext_ext]
theorem num_bad_at (s : ByteArray) (a k : Nat) (h : ¬ (a + k ≤ s.size ∧ (((L s).drop a).take k).all dig = true)) (hk : 0 < k) : (numS k (s.extract a s.size, false)).2.2 = true := by
  refine num_no k _ (fun h' => h ?_)
  dsimp only at h'
  rw [L_from, List.length_drop, L_len] at h'
  exact ⟨by omega, h'.2⟩
theorem one_bad_at (of s : ByteArray) (a : Nat) (h : ∀ c, (L s)[a]? = some c → (L of).contains c = false) : (oneS of (s.extract a s.size, false)).2.2 = true := by
  refine one_no of _ (fun c hc => h c ?_)
  dsimp only at hc
  rw [L_from, List.head?_drop] at hc
  exact hc
theorem hms_like (l : List UInt8) (h8 : 8 ≤ l.length) (d1 : (l.take 2).all dig = true) (c1 : l[2]? = some 58) (d2 : ((l.drop 3).take 2).all dig = true) (c2 : l[5]? = some 58) (d3 : ((l.drop 6).take 2).all dig = true) : likeB l (L hmsF) = true := by
  obtain ⟨a0, a1, a2, a3, a4, a5, a6, a7, t, rfl⟩ : ∃ a0 a1 a2 a3 a4 a5 a6 a7 t, l = a0 :: a1 :: a2 :: a3 :: a4 :: a5 :: a6 :: a7 :: t := by
    match l, h8 with
    | a0 :: a1 :: a2 :: a3 :: a4 :: a5 :: a6 :: a7 :: t, _ => exact ⟨a0, a1, a2, a3, a4, a5, a6, a7, t, rfl⟩
  show likeB _ [100, 100, 58, 100, 100, 58, 100, 100] = true
  simp at d1 d2 d3 c1 c2
  subst c1 c2
  simp [likeB, d1, d2, d3]
/-- Two digits, a colon, two digits, a colon, two digits. -/
theorem hms_ok (s : ByteArray) (f : Fl) (h : likeB (L s) (L hmsF) = true) :
    hmsS (s, false) f = ((s.extract 8 s.size, false), { f with ho := valL 0 ((L s).take 2), mi := valL 0 (((L s).drop 3).take 2), se := valL 0 (((L s).drop 6).take 2) }) := by
  obtain ⟨h8, d1, d2, d3, c1, c2⟩ := hms_digs _ h
  rw [L_len] at h8
  have e1 : numS 2 (s, false) = (valL 0 ((L s).take 2), s.extract 2 s.size, false) := by
    have := num_at s 0 2 (by omega) (by rw [List.drop_zero]; exact d1)
    rw [ext_zero, List.drop_zero] at this
    exact this
  have e2 : oneS col (s.extract 2 s.size, false) = (58, s.extract 3 s.size, false) := one_at col s 2 58 c1 (by decide)
  have e3 : numS 2 (s.extract 3 s.size, false) = (valL 0 (((L s).drop 3).take 2), s.extract 5 s.size, false) := num_at s 3 2 (by omega) d2
  have e4 : oneS col (s.extract 5 s.size, false) = (58, s.extract 6 s.size, false) := one_at col s 5 58 c2 (by decide)
  have e5 : numS 2 (s.extract 6 s.size, false) = (valL 0 (((L s).drop 6).take 2), s.extract 8 s.size, false) := num_at s 6 2 (by omega) d3
  unfold hmsS
  simp only [e1, e2, e3, e4, e5]
theorem hms_no (s : ByteArray) (f : Fl) (h : likeB (L s) (L hmsF) = false) : (hmsS (s, false) f).1.2 = true := by
  show (numS 2 (oneS col (numS 2 (oneS col (numS 2 (s, false)).2).2).2).2).2.2 = true
  by_cases k1 : 0 + 2 ≤ s.size ∧ (((L s).drop 0).take 2).all dig = true
  case neg =>
    have b1 : (numS 2 (s, false)).2.2 = true := by
      have := num_bad_at s 0 2 k1 (by decide)
      rwa [ext_zero] at this
    exact numS_bad _ _ (oneS_bad _ _ (numS_bad _ _ (oneS_bad _ _ b1)))
  have e1 : numS 2 (s, false) = (valL 0 (((L s).drop 0).take 2), s.extract 2 s.size, false) := by
    have := num_at s 0 2 k1.1 k1.2
    rwa [ext_zero] at this
  rw [e1]
  dsimp only
  by_cases k2 : (L s)[2]? = some 58
  case neg =>
    exact numS_bad _ _ (oneS_bad _ _ (numS_bad _ _ (one_bad_at col s 2 (fun c hc => by
      cases hx : (L col).contains c
      · rfl
      · exfalso
        have : c = 58 := by simpa [col, L] using hx
        exact k2 (by rw [hc, this])))))
  rw [one_at col s 2 58 k2 (by decide)]
  dsimp only
  by_cases k3 : 3 + 2 ≤ s.size ∧ (((L s).drop 3).take 2).all dig = true
  case neg => exact numS_bad _ _ (oneS_bad _ _ (num_bad_at s 3 2 k3 (by decide)))
  rw [num_at s 3 2 k3.1 k3.2]
  dsimp only
  by_cases k4 : (L s)[5]? = some 58
  case neg =>
    exact numS_bad _ _ (one_bad_at col s 5 (fun c hc => by
      cases hx : (L col).contains c
      · rfl
      · exfalso
        have : c = 58 := by simpa [col, L] using hx
        exact k4 (by rw [hc, this])))
  rw [one_at col s 5 58 k4 (by decide)]
  dsimp only
  by_cases k5 : 6 + 2 ≤ s.size ∧ (((L s).drop 6).take 2).all dig = true
  case neg => exact num_bad_at s 6 2 k5 (by decide)
  exfalso
  have hl := hms_like (L s) (by rw [L_len]; exact k5.1) (by have := k1.2; rwa [List.drop_zero] at this) k2 k3.2 k4 k5.2
  rw [hl] at h
  cases h
end Go.Proofs.YtgddhkanfcpipaaGreatDoor

namespace Go.Proofs.YtgddhkanfcpipaaGreatDoor
open Go.RowKit
set_option maxHeartbeats 1000000
set_option maxRecDepth 100000

theorem dat_like (l : List UInt8) (h : 10 ≤ l.length) (d1 : (l.take 4).all dig = true) (c1 : l[4]? = some 45) (d2 : ((l.drop 5).take 2).all dig = true) (c2 : l[7]? = some 45) (d3 : ((l.drop 8).take 2).all dig = true) : likeB l (L datF) = true := by
  obtain ⟨a0, a1, a2, a3, a4, a5, a6, a7, a8, a9, t, rfl⟩ : ∃ a0 a1 a2 a3 a4 a5 a6 a7 a8 a9 t, l = a0 :: a1 :: a2 :: a3 :: a4 :: a5 :: a6 :: a7 :: a8 :: a9 :: t := by
    match l, h with
    | a0 :: a1 :: a2 :: a3 :: a4 :: a5 :: a6 :: a7 :: a8 :: a9 :: t, _ => exact ⟨a0, a1, a2, a3, a4, a5, a6, a7, a8, a9, t, rfl⟩
  show likeB _ [100, 100, 100, 100, 45, 100, 100, 45, 100, 100] = true
  simp at d1 d2 d3 c1 c2
  subst c1 c2
  simp [likeB, d1, d2, d3]
theorem date_ok (s : ByteArray) (f : Fl) (h : likeB (L s) (L datF) = true) :
    dateS (s, false) f = ((s.extract 10 s.size, false), { f with y := valL 0 ((L s).take 4), mo := valL 0 (((L s).drop 5).take 2), d := valL 0 (((L s).drop 8).take 2) }) := by
  obtain ⟨h10, d1, d2, d3, c1, c2⟩ := dat_digs _ h
  rw [L_len] at h10
  have e1 : numS 4 (s, false) = (valL 0 ((L s).take 4), s.extract 4 s.size, false) := by
    have := num_at s 0 4 (by omega) (by rw [List.drop_zero]; exact d1)
    rw [ext_zero, List.drop_zero] at this
    exact this
  have e2 : oneS dsh (s.extract 4 s.size, false) = (45, s.extract 5 s.size, false) := one_at dsh s 4 45 c1 (by decide)
  have e3 : numS 2 (s.extract 5 s.size, false) = (valL 0 (((L s).drop 5).take 2), s.extract 7 s.size, false) := num_at s 5 2 (by omega) d2
  have e4 : oneS dsh (s.extract 7 s.size, false) = (45, s.extract 8 s.size, false) := one_at dsh s 7 45 c2 (by decide)
  have e5 : numS 2 (s.extract 8 s.size, false) = (valL 0 (((L s).drop 8).take 2), s.extract 10 s.size, false) := num_at s 8 2 (by omega) d3
  unfold dateS
  simp only [e1, e2, e3, e4, e5]
theorem date_no (s : ByteArray) (f : Fl) (h : likeB (L s) (L datF) = false) : (dateS (s, false) f).1.2 = true := by
  show (numS 2 (oneS dsh (numS 2 (oneS dsh (numS 4 (s, false)).2).2).2).2).2.2 = true
  by_cases k1 : 0 + 4 ≤ s.size ∧ (((L s).drop 0).take 4).all dig = true
  case neg =>
    have b1 : (numS 4 (s, false)).2.2 = true := by
      have := num_bad_at s 0 4 k1 (by decide)
      rwa [ext_zero] at this
    exact numS_bad _ _ (oneS_bad _ _ (numS_bad _ _ (oneS_bad _ _ b1)))
  have e1 : numS 4 (s, false) = (valL 0 (((L s).drop 0).take 4), s.extract 4 s.size, false) := by
    have := num_at s 0 4 k1.1 k1.2
    rwa [ext_zero] at this
  rw [e1]
  dsimp only
  by_cases k2 : (L s)[4]? = some 45
  case neg =>
    exact numS_bad _ _ (oneS_bad _ _ (numS_bad _ _ (one_bad_at dsh s 4 (fun c hc => by
      cases hx : (L dsh).contains c
      · rfl
      · exfalso
        have : c = 45 := by simpa [dsh, L] using hx
        exact k2 (by rw [hc, this])))))
  rw [one_at dsh s 4 45 k2 (by decide)]
  dsimp only
  by_cases k3 : 5 + 2 ≤ s.size ∧ (((L s).drop 5).take 2).all dig = true
  case neg => exact numS_bad _ _ (oneS_bad _ _ (num_bad_at s 5 2 k3 (by decide)))
  rw [num_at s 5 2 k3.1 k3.2]
  dsimp only
  by_cases k4 : (L s)[7]? = some 45
  case neg =>
    exact numS_bad _ _ (one_bad_at dsh s 7 (fun c hc => by
      cases hx : (L dsh).contains c
      · rfl
      · exfalso
        have : c = 45 := by simpa [dsh, L] using hx
        exact k4 (by rw [hc, this])))
  rw [one_at dsh s 7 45 k4 (by decide)]
  dsimp only
  by_cases k5 : 8 + 2 ≤ s.size ∧ (((L s).drop 8).take 2).all dig = true
  case neg => exact num_bad_at s 8 2 k5 (by decide)
  exfalso
  have hl := dat_like (L s) (by rw [L_len]; exact k5.1) (by have := k1.2; rwa [List.drop_zero] at this) k2 k3.2 k4 k5.2
  rw [hl] at h
  cases h
/-! A fraction of k digits, filled up with noughts. -/
theorem valL_app : ∀ (l m : List UInt8) (a : Nat), valL a (l ++ m) = valL (valL a l) m
  | [], _, _ => rfl
  | b :: t, m, a => by
    rw [List.cons_append]
    exact valL_app t m _
theorem valL_zeros : ∀ (n a : Nat), valL a (List.replicate n 48) = a * 10 ^ n
  | 0, a => (Nat.mul_one a).symm
  | n + 1, a => by
    rw [List.replicate_succ]
    show valL (10 * a + (48 - 48)) (List.replicate n 48) = _
    rw [Nat.sub_self, Nat.add_zero, valL_zeros n, Nat.pow_succ, Nat.mul_comm 10 a, Nat.mul_assoc, Nat.mul_comm 10]
theorem frac_fill (l : List UInt8) (h : l.length ≤ 9) : valL 0 ((l ++ zer9).take 9) = valL 0 l * 10 ^ (9 - l.length) := by
  have e : zer9 = List.replicate 9 48 := rfl
  rw [e, List.take_append, List.take_of_length_le h, List.take_replicate, valL_app, Nat.min_eq_left (by omega), valL_zeros]
/-- A time of day: the program's way and the reference's. -/
theorem clock_tc (s : ByteArray) (f : Fl) :
    ((tcR (L s)).2.2.1 = false → (clockS (s, false) f).1.2 = true) ∧
    ((tcR (L s)).2.2.1 = true → ∃ s', L s' = (tcR (L s)).2.1 ∧ (clockS (s, false) f).1 = (s', false) ∧ (clockS (s, false) f).2 = { f with ho := valL 0 ((L s).take 2), mi := valL 0 (((L s).drop 3).take 2), se := valL 0 (((L s).drop 6).take 2), na := (clockS (s, false) f).2.na } ∧ (tcR (L s)).1 = hmsN (L s) + (if ((L s).drop 8).head? = some 46 then (clockS (s, false) f).2.na else 0) ∧ (((L s).drop 8).head? ≠ some 46 → (clockS (s, false) f).2.na = f.na) ∧ (tcR (L s)).2.2.2 = hmsI (L s)) := by
  cases hlk : likeB (L s) (L hmsF)
  case false =>
    have ht : tcR (L s) = noC := by unfold tcR; rw [if_pos hlk]
    have hb : (clockS (s, false) f).1.2 = true := by
      unfold clockS
      exact dotS_bad (hmsS (s, false) f) (hms_no s f hlk)
    have hz : (tcR (L s)).2.2.1 = false := by rw [ht]; rfl
    refine ⟨fun _ => hb, fun h => ?_⟩
    rw [hz] at h
    exact absurd h Bool.false_ne_true
  have hh := hms_ok s f hlk
  have hc : clockS (s, false) f = dotS ((s.extract 8 s.size, false), { f with ho := valL 0 ((L s).take 2), mi := valL 0 (((L s).drop 3).take 2), se := valL 0 (((L s).drop 6).take 2) }) := by unfold clockS; rw [hh]
  have hL8 : L (s.extract 8 s.size) = (L s).drop 8 := L_from _ _
  have hL9 : L ((s.extract 8 s.size).extract 1 (s.extract 8 s.size).size) = (L s).drop 9 := by rw [L_from, hL8, List.drop_drop]
  by_cases h46 : ((L s).drop 8).head? = some 46
  case neg =>
    have ht : tcR (L s) = (hmsN (L s), (L s).drop 8, true, hmsI (L s)) := by unfold tcR; rw [if_neg (by rw [hlk]; simp), if_neg h46]
    have hd : clockS (s, false) f = ((s.extract 8 s.size, false), { f with ho := valL 0 ((L s).take 2), mi := valL 0 (((L s).drop 3).take 2), se := valL 0 (((L s).drop 6).take 2) }) := by
      rw [hc]
      unfold dotS
      dsimp only
      rw [hL8, if_neg h46]
    rw [ht, hd]
    refine ⟨fun h => by (dsimp only at h; cases h), fun _ => ⟨_, hL8, rfl, rfl, ?_, fun _ => rfl, rfl⟩⟩
    rw [if_neg h46]
    exact (Nat.add_zero _).symm
  have hd : clockS (s, false) f = ((fracS ((s.extract 8 s.size).extract 1 (s.extract 8 s.size).size, false)).2, { f with ho := valL 0 ((L s).take 2), mi := valL 0 (((L s).drop 3).take 2), se := valL 0 (((L s).drop 6).take 2), na := (fracS ((s.extract 8 s.size).extract 1 (s.extract 8 s.size).size, false)).1 }) := by
    rw [hc]
    unfold dotS
    dsimp only
    rw [hL8, if_pos h46]
  by_cases hk : runL ((L s).drop 9) < 1 ∨ 9 < runL ((L s).drop 9)
  · have ht : tcR (L s) = noC := by unfold tcR; rw [if_neg (by rw [hlk]; simp), if_pos h46, if_pos hk]
    rw [ht, hd]
    refine ⟨fun _ => ?_, fun h => absurd (show (false : Bool) = true from h) (by decide)⟩
    unfold fracS
    dsimp only
    rw [hL9, if_pos hk]
  · have ht : tcR (L s) = (hmsN (L s) + valL 0 ((((L s).drop 9).take (runL ((L s).drop 9)) ++ zer9).take 9), (L s).drop (9 + runL ((L s).drop 9)), true, hmsI (L s)) := by unfold tcR; rw [if_neg (by rw [hlk]; simp), if_pos h46, if_neg hk]
    have hrl := runL_le ((L s).drop 9)
    have hf : fracS ((s.extract 8 s.size).extract 1 (s.extract 8 s.size).size, false) = (valL 0 (((L s).drop 9).take (runL ((L s).drop 9))) * 10 ^ (9 - runL ((L s).drop 9)), s.extract (9 + runL ((L s).drop 9)) s.size, false) := by
      unfold fracS
      dsimp only
      rw [hL9, if_neg hk, ext_ext, ext_ext, show 8 + (1 + runL ((L s).drop 9)) = 9 + runL ((L s).drop 9) by omega]
    have hfl : valL 0 ((((L s).drop 9).take (runL ((L s).drop 9)) ++ zer9).take 9) = valL 0 (((L s).drop 9).take (runL ((L s).drop 9))) * 10 ^ (9 - runL ((L s).drop 9)) := by
      rw [frac_fill _ (by rw [List.length_take]; omega), List.length_take, Nat.min_eq_left hrl]
    rw [ht, hd, hf, hfl]
    refine ⟨fun h => by (dsimp only at h; cases h), fun _ => ⟨_, L_from _ _, rfl, rfl, ?_, fun h => absurd h46 h, rfl⟩⟩
    rw [if_pos h46]
end Go.Proofs.YtgddhkanfcpipaaGreatDoor

namespace Go.Proofs.YtgddhkanfcpipaaGreatDoor
open Go.RowKit
set_option maxHeartbeats 1000000
set_option maxRecDepth 100000

theorem off_like (l : List UInt8) (c : UInt8) (hc : c.toNat ≠ 100) (h : 6 ≤ l.length) (h0 : l.head? = some c) (d1 : ((l.drop 1).take 2).all dig = true) (c1 : l[3]? = some 58) (d2 : ((l.drop 4).take 2).all dig = true) : likeB l [c, 100, 100, 58, 100, 100] = true := by
  obtain ⟨a0, a1, a2, a3, a4, a5, t, rfl⟩ : ∃ a0 a1 a2 a3 a4 a5 t, l = a0 :: a1 :: a2 :: a3 :: a4 :: a5 :: t := by
    match l, h with
    | a0 :: a1 :: a2 :: a3 :: a4 :: a5 :: t, _ => exact ⟨a0, a1, a2, a3, a4, a5, t, rfl⟩
  simp at h0 d1 d2 c1
  subst h0 c1
  simp [likeB, hc, d1, d2]
/-- Whether an offset has the form, and is the whole rest. -/
def offOK (x : ByteArray × Bool) : Bool := !x.2 && decide (L x.1 = [])
/-- A sign and four digits, in the program's way. -/
theorem off_sign (s : ByteArray) (f : Fl) (c : UInt8) (hc : c = 43 ∨ c = 45) (h0 : (L s)[0]? = some c) :
    (likeB (L s) [c, 100, 100, 58, 100, 100] = true → offS (s, false) f = ((s.extract 6 s.size, false), { f with sg := c.toNat, oh := valL 0 (((L s).drop 1).take 2), om := valL 0 (((L s).drop 4).take 2) })) ∧
    (likeB (L s) [c, 100, 100, 58, 100, 100] = false → (offS (s, false) f).1.2 = true) := by
  have hcs : (L sgn4).contains c = true := by rcases hc with rfl | rfl <;> decide
  have hcn : c.toNat = 43 ∨ c.toNat = 45 := by rcases hc with rfl | rfl <;> simp
  have e0 : oneS sgn4 (s, false) = (c.toNat, s.extract 1 s.size, false) := by
    have := one_at sgn4 s 0 c h0 hcs
    rw [ext_zero] at this
    exact this
  have eo : offS (s, false) f = ((numS 2 (oneS col (numS 2 (s.extract 1 s.size, false)).2).2).2, { f with sg := c.toNat, oh := (numS 2 (s.extract 1 s.size, false)).1, om := (numS 2 (oneS col (numS 2 (s.extract 1 s.size, false)).2).2).1 }) := by
    unfold offS
    rw [e0]
    dsimp only
    rw [if_pos hcn]
  constructor
  · intro h
    obtain ⟨-, d1, c1, d2⟩ := off_digs _ c (by omega) h
    have hl := likeB_len _ _ h
    have hl6 : 6 ≤ s.size := by rw [L_len] at hl; exact hl
    have e3 : numS 2 (s.extract 1 s.size, false) = (valL 0 (((L s).drop 1).take 2), s.extract 3 s.size, false) := num_at s 1 2 (by omega) d1
    have e4 : oneS col (s.extract 3 s.size, false) = (58, s.extract 4 s.size, false) := one_at col s 3 58 c1 (by decide)
    have e5 : numS 2 (s.extract 4 s.size, false) = (valL 0 (((L s).drop 4).take 2), s.extract 6 s.size, false) := num_at s 4 2 (by omega) d2
    rw [eo]
    simp only [e3, e4, e5]
  · intro h
    rw [eo]
    show (numS 2 (oneS col (numS 2 (s.extract 1 s.size, false)).2).2).2.2 = true
    by_cases k1 : 1 + 2 ≤ s.size ∧ (((L s).drop 1).take 2).all dig = true
    case neg => exact numS_bad _ _ (oneS_bad _ _ (num_bad_at s 1 2 k1 (by decide)))
    rw [num_at s 1 2 k1.1 k1.2]
    dsimp only
    by_cases k2 : (L s)[3]? = some 58
    case neg =>
      exact numS_bad _ _ (one_bad_at col s 3 (fun c hc => by
        cases hx : (L col).contains c
        · rfl
        · exfalso
          have : c = 58 := by simpa [col, L] using hx
          exact k2 (by rw [hc, this])))
    rw [one_at col s 3 58 k2 (by decide)]
    dsimp only
    by_cases k3 : 4 + 2 ≤ s.size ∧ (((L s).drop 4).take 2).all dig = true
    case neg => exact num_bad_at s 4 2 k3 (by decide)
    exfalso
    have hl := off_like (L s) c (by omega) (by rw [L_len]; exact k3.1) (by rw [List.head?_eq_getElem?]; exact h0) k1.2 k2 k3.2
    rw [hl] at h
    cases h
/-- No sign, no Z. -/
theorem off_none (s : ByteArray) (f : Fl) (h : ∀ c, (L s)[0]? = some c → (L sgn4).contains c = false) : (offS (s, false) f).1.2 = true := by
  have hb : (oneS sgn4 (s, false)).2.2 = true := by
    have := one_bad_at sgn4 s 0 h
    rw [ext_zero] at this
    exact this
  unfold offS
  split
  · exact numS_bad _ _ (oneS_bad _ _ (numS_bad _ _ hb))
  · exact hb
/-- Z. -/
theorem off_zed (s : ByteArray) (f : Fl) (c : UInt8) (hc : c = 90 ∨ c = 122) (h0 : (L s)[0]? = some c) : offS (s, false) f = ((s.extract 1 s.size, false), { f with sg := c.toNat }) := by
  have hcs : (L sgn4).contains c = true := by rcases hc with rfl | rfl <;> decide
  have hcn : ¬ (c.toNat = 43 ∨ c.toNat = 45) := by rcases hc with rfl | rfl <;> decide
  have e0 : oneS sgn4 (s, false) = (c.toNat, s.extract 1 s.size, false) := by
    have := one_at sgn4 s 0 c h0 hcs
    rw [ext_zero] at this
    exact this
  unfold offS
  rw [e0]
  dsimp only
  rw [if_neg hcn]
end Go.Proofs.YtgddhkanfcpipaaGreatDoor
