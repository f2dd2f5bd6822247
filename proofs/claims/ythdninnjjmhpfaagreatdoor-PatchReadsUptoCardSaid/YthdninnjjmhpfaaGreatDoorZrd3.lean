/- datakitref08.unsign, quoted walked. Conditions: strings of at most 10^9 bytes. -/
import Derived.Test.YthdninnjjmhpfaaGreatDoorZrd2
import Derived.Test.YthdninnjjmhpfaaGreatDoorZrd1
import Derived.Deep.QuietTactic
import Derived.BigQuiet
namespace Go.Proofs.YthdninnjjmhpfaaGreatDoor
open Go.RowKit Go.Shelf
set_option maxHeartbeats 1000000
set_option maxRecDepth 100000

theorem hexd1_lt : ∀ b : UInt8, ∀ d, hexd1 b = some d → d < 16 := by
  intro b d h
  unfold hexd1 at h
  repeat' split at h
  all_goals first | (simp only [Option.some.injEq] at h; omega) | cases h
theorem hexs_lt (l : List UInt8) (d : Nat) (h : hexs l = some d) : d < 256 := by
  unfold hexs at h
  split at h
  · have := hexd1_lt _ _ h; omega
  · split at h
    · split at h
      · rename_i _ _ h1 _ _ h2
        have := hexd1_lt _ _ h1
        have := hexd1_lt _ _ h2
        simp only [Option.some.injEq] at h
        omega
      · cases h
    · cases h
  · cases h
theorem escI_lt (l : List UInt8) : (escI l).1 < 256 ∧ (escI l).2 ≤ l.length := by
  rcases l with _ | ⟨b, t⟩
  · exact ⟨by decide, Nat.le_refl _⟩
  rw [escI_cons]
  have := b.toNat_lt
  split
  · exact ⟨by omega, by simp⟩
  split
  · exact ⟨by decide, by simp⟩
  split
  · exact ⟨by decide, by simp⟩
  split
  · exact ⟨by decide, by simp⟩
  split
  · unfold ues
    split
    · rename_i c hc
      split at hc
      · rename_i h1
        have h2 := h1.2
        rw [List.getElem?_eq_some_iff] at h2
        obtain ⟨h2, _⟩ := h2
        exact ⟨hexs_lt _ _ hc, by simp only [List.length_cons]; omega⟩
      · cases hc
    · split
      · rename_i c hc
        split at hc
        · rename_i h1
          have h2 := h1.2
          rw [List.getElem?_eq_some_iff] at h2
          obtain ⟨h2, _⟩ := h2
          exact ⟨hexs_lt _ _ hc, by simp only [List.length_cons]; omega⟩
        · cases hc
      · exact ⟨by decide, by simp⟩
  · exact ⟨by decide, by simp⟩

/-- One look of the loop: at n = 3 and n = 4. -/
def uesAt (s : ByteArray) (n : Nat) : Option Nat := if (L s)[1]? = some 123 ∧ (L s)[n]? = some 125 then hexs (((L s).drop 2).take (n - 2)) else none
theorem ues_eq (s : ByteArray) (t : List UInt8) (b : UInt8) (h : L s = b :: t) : ues t = match uesAt s 3 with
    | some c => (c, 4)
    | none => match uesAt s 4 with
      | some c => (c, 5)
      | none => (0, 0) := by
  unfold ues uesAt
  rw [h]
  simp
  rfl
theorem hexF_hexs (l : List UInt8) (h1 : 1 ≤ l.length) (h2 : l.length ≤ 2) : hexF 0 l = hexs l := by
  rcases l with _ | ⟨a, _ | ⟨b, _ | ⟨c, l⟩⟩⟩
  · simp at h1
  · exact hexF_one a
  · exact hexF_two a b
  · simp at h2
theorem ret2_esc {a b : Int} {p : Nat × Nat} (h1 : a = p.1) (h2 : b = p.2) : Ending.returned (.tuple #[.int .u8 a, .int .i64 b]) = Ending.returned (.tuple #[.int .u8 p.1, .int .i64 p.2]) := by rw [h1, h2]
theorem L_at (s : ByteArray) (i : Nat) : (L s)[i]? = if h : i < s.size then some s[i] else none := by
  split
  · rename_i h
    rw [List.getElem?_eq_getElem (by rw [L_len]; exact h), L_get s i h]
  · rename_i h
    rw [List.getElem?_eq_none (by rw [L_len]; omega)]
theorem escape_any (s : ByteArray) (w : World) (hs : s.size ≤ 1000000000) (he : Env w) :
    Calls Tryz.prog 137 #[.string s] w fun e w' => e = .returned (.tuple #[.int .u8 ((escI (L s)).1 : Int), .int .i64 ((escI (L s)).2 : Int)]) ∧ Below w.heap.size w w' := by
  by_cases h0 : s.size = 0
  · have e0 : s.toList.isEmpty = true := neE.2 h0
    have HF : Hid (escI (L s) = (0, 0)) := by
      have : L s = [] := List.length_eq_zero_iff.1 (by rw [L_len]; exact h0)
      unfold Hid; rw [this]; rfl
    clear h0 he
    go_enter Tryz.func137, Tryz.ntmps137
    go_wp2_with fail
    go_ret2
    exact ⟨ret2_esc (by rw [HF.out]; rfl) (by rw [HF.out]; rfl), Below.refl _ _⟩
  have hp : 0 < s.size := by omega
  have e0 : s.toList.isEmpty = false := by rw [Bool.eq_false_iff, ne_eq, neE]; exact h0
  have hd := L_drop s 0 hp
  rw [List.drop_zero] at hd
  have HX : Hid (escI (L s) = if s[0].toNat = 34 ∨ s[0].toNat = 92 then (s[0].toNat, 1) else if s[0].toNat = 110 then (10, 1) else if s[0].toNat = 116 then (9, 1) else if s[0].toNat = 114 then (13, 1) else if s[0].toNat = 117 then ues ((L s).drop 1) else (0, 0)) := by
    unfold Hid
    conv => lhs; rw [hd]
    rw [escI_cons]
  have HU := Lib.hid (ues_eq s _ _ hd)
  have HE := Lib.hid he
  clear h0 he hd
  by_cases c1 : s[0].toNat = 34
  · have e1 : ((s[0].toNat : Int) == 34) = true := beqB _ _ (by omega)
    have HF : Hid (escI (L s) = (s[0].toNat, 1)) := by unfold Hid; rw [HX.out, if_pos (.inl c1)]
    clear HX c1 HU
    go_enter Tryz.func137, Tryz.ntmps137
    go_wp2_with fail
    go_ret2
    exact ⟨ret2_esc (by rw [HF.out]) (by rw [HF.out]; rfl), Below.refl _ _⟩
  have e1 : ((s[0].toNat : Int) == 34) = false := beqNB _ _ (by omega)
  by_cases c2 : s[0].toNat = 92
  · have e2 : ((s[0].toNat : Int) == 92) = true := beqB _ _ (by omega)
    have HF : Hid (escI (L s) = (s[0].toNat, 1)) := by unfold Hid; rw [HX.out, if_pos (.inr c2)]
    clear HX c1 c2 HU
    go_enter Tryz.func137, Tryz.ntmps137
    go_wp2_with fail
    go_ret2
    exact ⟨ret2_esc (by rw [HF.out]) (by rw [HF.out]; rfl), Below.refl _ _⟩
  have e2 : ((s[0].toNat : Int) == 92) = false := beqNB _ _ (by omega)
  have HX2 : Hid (escI (L s) = if s[0].toNat = 110 then (10, 1) else if s[0].toNat = 116 then (9, 1) else if s[0].toNat = 114 then (13, 1) else if s[0].toNat = 117 then ues ((L s).drop 1) else (0, 0)) := by unfold Hid; rw [HX.out, if_neg (by omega)]
  clear HX c1 c2
  by_cases c3 : s[0].toNat = 110
  · have e3 : ((s[0].toNat : Int) == 110) = true := beqB _ _ (by omega)
    have HF : Hid (escI (L s) = (10, 1)) := by unfold Hid; rw [HX2.out, if_pos c3]
    clear HX2 HU c3
    go_enter Tryz.func137, Tryz.ntmps137
    go_wp2_with fail
    go_ret2
    exact ⟨ret2_esc (by rw [HF.out]; rfl) (by rw [HF.out]; rfl), Below.refl _ _⟩
  have e3 : ((s[0].toNat : Int) == 110) = false := beqNB _ _ (by omega)
  by_cases c4 : s[0].toNat = 116
  · have e4 : ((s[0].toNat : Int) == 116) = true := beqB _ _ (by omega)
    have HF : Hid (escI (L s) = (9, 1)) := by unfold Hid; rw [HX2.out, if_neg c3, if_pos c4]
    clear HX2 HU c3 c4
    go_enter Tryz.func137, Tryz.ntmps137
    go_wp2_with fail
    go_ret2
    exact ⟨ret2_esc (by rw [HF.out]; rfl) (by rw [HF.out]; rfl), Below.refl _ _⟩
  have e4 : ((s[0].toNat : Int) == 116) = false := beqNB _ _ (by omega)
  by_cases c5 : s[0].toNat = 114
  · have e5 : ((s[0].toNat : Int) == 114) = true := beqB _ _ (by omega)
    have HF : Hid (escI (L s) = (13, 1)) := by unfold Hid; rw [HX2.out, if_neg c3, if_neg c4, if_pos c5]
    clear HX2 HU c3 c4 c5
    go_enter Tryz.func137, Tryz.ntmps137
    go_wp2_with fail
    go_ret2
    exact ⟨ret2_esc (by rw [HF.out]; rfl) (by rw [HF.out]; rfl), Below.refl _ _⟩
  have e5 : ((s[0].toNat : Int) == 114) = false := beqNB _ _ (by omega)
  by_cases c6 : s[0].toNat = 117
  case neg =>
    have e6 : ((s[0].toNat : Int) == 117) = false := beqNB _ _ (by omega)
    have HF : Hid (escI (L s) = (0, 0)) := by unfold Hid; rw [HX2.out, if_neg c3, if_neg c4, if_neg c5, if_neg c6]
    clear HX2 HU c3 c4 c5 c6
    go_enter Tryz.func137, Tryz.ntmps137
    go_wp2_with fail
    go_ret2
    exact ⟨ret2_esc (by rw [HF.out]; rfl) (by rw [HF.out]; rfl), Below.refl _ _⟩
  have e6 : ((s[0].toNat : Int) == 117) = true := beqB _ _ (by omega)
  have HX3 : Hid (escI (L s) = match uesAt s 3 with
    | some c => (c, 4)
    | none => match uesAt s 4 with
      | some c => (c, 5)
      | none => (0, 0)) := by unfold Hid; rw [HX2.out, if_neg c3, if_neg c4, if_neg c5, if_pos c6, HU.out]
  clear HX2 HU c3 c4 c5 c6
  go_enter Tryz.func137, Tryz.ntmps137
  go_wp2_with fail
  go_loopw [4, 5, 6] (fun n _ _ wr => ∃ k : Nat, 3 ≤ k ∧ k ≤ 5 ∧ n = .int .i64 k ∧ Hid (∀ m, 3 ≤ m → m < k → uesAt s m = none) ∧ Below w.heap.size w wr) (fun n _ _ _ => 5 - (intOf n).toNat)
  case atStart => exact ⟨3, by omega, by omega, rfl, by unfold Hid; intro m h1 h2; omega, Below.refl _ _⟩
  case round =>
    obtain ⟨k, hk3, hk5, rfl, HN, hbw⟩ := hrel
    have hz := hbw.size
    by_cases hin : k ≤ 4 ∧ k < s.size
    case neg =>
      have hnone : ∀ m, 3 ≤ m → m ≤ 4 → uesAt s m = none := by
        intro m h1 h2
        by_cases h3 : m < k
        · exact HN.out m h1 h3
        · unfold uesAt
          rw [L_at s m, dif_neg (by omega)]
          simp
      have HF : Hid (escI (L s) = (0, 0)) := by unfold Hid; rw [HX3.out, hnone 3 (by omega) (by omega), hnone 4 (by omega) (by omega)]
      clear HX3 HN hnone
      go_wp2_with fail
      all_goals first
        | omega
        | (go_ret2; exact ⟨ret2_esc (by rw [HF.out]; rfl) (by rw [HF.out]; rfl), hbw⟩)
    obtain ⟨hk4, hks⟩ := hin
    have h1s : 1 < s.size := by omega
    have hnext : uesAt s k = none → Hid (∀ m, 3 ≤ m → m < k + 1 → uesAt s m = none) := by
      intro h m h1 h2
      by_cases h3 : m < k
      · exact HN.out m h1 h3
      · obtain rfl : m = k := by omega
        exact h
    have hhit : ∀ c, uesAt s k = some c → Hid (escI (L s) = (c, k + 1)) := by
      intro c h
      unfold Hid
      rw [HX3.out]
      rcases (by omega : k = 3 ∨ k = 4) with rfl | rfl
      · rw [h]
      · rw [HN.out 3 (by omega) (by omega), h]
    have HNX := Lib.hid hnext; clear hnext
    have HHT := Lib.hid hhit; clear hhit HN
    by_cases d1 : s[1].toNat = 123
    case neg =>
      have f1 : ((s[1].toNat : Int) == 123) = false := beqNB _ _ (by omega)
      have HN2 := HNX.out (by unfold uesAt; rw [L_at s 1, dif_pos h1s, if_neg]; rintro ⟨h, _⟩; simp only [Option.some.injEq] at h; rw [h] at d1; exact d1 (by decide))
      clear HNX HHT HX3 d1
      go_wp2_with fail
      exact ⟨⟨k + 1, by omega, by omega, rfl, HN2, hbw⟩, by simp [intOf]; omega⟩
    have f1 : ((s[1].toNat : Int) == 123) = true := beqB _ _ (by omega)
    by_cases d2 : s[k].toNat = 125
    case neg =>
      have f2 : ((s[k].toNat : Int) == 125) = false := beqNB _ _ (by omega)
      have HN2 := HNX.out (by unfold uesAt; rw [L_at s k, dif_pos hks, if_neg]; rintro ⟨_, h⟩; simp only [Option.some.injEq] at h; rw [h] at d2; exact d2 (by decide))
      clear HNX HHT HX3 d1 d2
      go_wp2_with fail
      exact ⟨⟨k + 1, by omega, by omega, rfl, HN2, hbw⟩, by simp [intOf]; omega⟩
    have f2 : ((s[k].toNat : Int) == 125) = true := beqB _ _ (by omega)
    have hLx : L (s.extract 2 k) = ((L s).drop 2).take (k - 2) := L_extract s 2 k
    have hxs : (s.extract 2 k).size = k - 2 := by rw [ByteArray.size_extract]; omega
    have hU : uesAt s k = hexF 0 (L (s.extract 2 k)) := by
      rw [hexF_hexs _ (by rw [L_len]; omega) (by rw [L_len]; omega), hLx]
      unfold uesAt
      rw [L_at s 1, dif_pos h1s, L_at s k, dif_pos hks, if_pos]
      exact ⟨congrArg some (by rw [u8_of d1]; rfl), congrArg some (by rw [u8_of d2]; rfl)⟩
    have hlt256 : ∀ c, hexF 0 (L (s.extract 2 k)) = some c → c < 256 := by
      intro c h
      rw [hexF_hexs _ (by rw [L_len]; omega) (by rw [L_len]; omega)] at h
      exact hexs_lt _ _ h
    rw [hU] at HNX HHT
    have HP1 := Lib.hid (ParseUint_ok (s.extract 2 k) (by omega) (by omega))
    have HP2 := Lib.hid (ParseUint_no (s.extract 2 k) (by omega) (by omega))
    have HEW := Lib.hid (HE.out.below hbw)
    clear HX3 d1 d2 hLx hxs hU
    generalize hexF 0 (L (s.extract 2 k)) = r at *
    cases r with
    | none =>
      have HN2 := HNX.out rfl
      have HP := Lib.hid (HP2.out rfl)
      clear HNX HHT hlt256 HP1 HP2
      go_wp2_with fail
      refine (HP.out _ HEW.out).mono ?_
      rintro e w1 ⟨⟨N, rfl⟩, hb1⟩
      go_wp2_with fail
      exact ⟨⟨k + 1, by omega, by omega, rfl, HN2, hbw.trans (hb1.mono hz)⟩, by simp [intOf]; omega⟩
    | some c =>
      have HF := HHT.out c rfl
      have h256 := hlt256 c rfl
      have HP := Lib.hid (HP1.out c rfl)
      clear HNX HHT hlt256 HP1 HP2
      go_wp2_with fail
      refine (HP.out _).mono ?_
      rintro e w1 ⟨rfl, hb1⟩
      go_wp2_with fail
      go_ret2
      refine ⟨ret2_esc ?_ ?_, hbw.trans (hb1.mono hz)⟩
      · rw [HF.out] <;> first | rfl | (show _ % _ = _; omega)
      · rw [HF.out]; rfl
theorem unqF_fuel : ∀ (f g : Nat) (l : List UInt8), l.length < f → l.length < g → unqF f l = unqF g l
  | 0, _, _, h, _ => absurd h (Nat.not_lt_zero _)
  | _ + 1, 0, _, _, h => absurd h (Nat.not_lt_zero _)
  | f + 1, g + 1, [], _, _ => rfl
  | f + 1, g + 1, b :: t, h1, h2 => by
    simp only [List.length_cons] at h1 h2
    rw [unqF_cons, unqF_cons, unqF_fuel f g t (by omega) (by omega), unqF_fuel f g (t.drop (escI t).2) (by rw [List.length_drop]; omega) (by rw [List.length_drop]; omega)]
def unqT (s : ByteArray) : Option (List UInt8 × Nat) := (unqF s.size ((L s).drop 1)).map fun r => (r.1, r.2 + 1)
def unqV (o : Option (List UInt8 × Nat)) : Value := match o with
  | some r => .tuple #[.string ⟨r.1.toArray⟩, .int .i64 (r.2 : Int)]
  | none => .tuple #[.string ⟨#[]⟩, .int .i64 0]
theorem unquote_any (s : ByteArray) (w : World) (h1 : 1 ≤ s.size) (hs : s.size ≤ 1000000000) (he : Env w) :
    Calls Tryz.prog 104 #[.string s] w fun e w' => e = .returned (unqV (unqT s)) ∧ Below w.heap.size w w' := by
  have HE := Lib.hid he; clear he
  have hst : unqT s = (unqF (s.size - 1 + 1) ((L s).drop 1)).map fun r => ([] ++ r.1, r.2 + 1) := by unfold unqT; rw [Nat.sub_add_cancel h1]; rfl
  have HST := Lib.hid hst; clear hst
  go_enter Tryz.func104, Tryz.ntmps104
  go_wp2_with fail
  go_loopw [4, 5, 6, 7] (fun o i _ _ wr => ∃ (k : Nat) (acc : List UInt8), 1 ≤ k ∧ k ≤ s.size ∧ i = .int .i64 k ∧ acc.length ≤ k ∧ wr.ownsRow w.heap.size 5 1 o acc.length (acc.map bv) ∧ Hid (unqT s = (unqF (s.size - k + 1) ((L s).drop k)).map fun r => (acc ++ r.1, r.2 + k)) ∧ Below w.heap.size w wr) (fun _ i _ _ _ => s.size - (intOf i).toNat)
  case atStart => exact ⟨1, [], Nat.le_refl _, h1, rfl, Nat.zero_le _, World.ownsRow_nil _ _ _ _, HST.out, Below.refl _ _⟩
  case round =>
    clear HST
    obtain ⟨k, acc, hk1, hk, rfl, hal, hown, HR, hbw⟩ := hrel
    have hz := hbw.size
    by_cases hlt : k < s.size
    case neg =>
      have HF : Hid (unqV (unqT s) = .tuple #[.string ⟨#[]⟩, .int .i64 0]) := by
        unfold Hid
        rw [HR.out, L_drop_nil s k (by omega)]
        rfl
      clear HR
      go_wp2_with fail
      go_ret2
      exact ⟨by rw [HF.out]; rfl, hbw⟩
    have hd := L_drop s k hlt
    have HD : Hid (unqT s = (if s[k].toNat = 34 then some ([], 1) else if s[k].toNat = 92 then (if (escI ((L s).drop (k + 1))).2 = 0 then none else (unqF (s.size - k) (((L s).drop (k + 1)).drop (escI ((L s).drop (k + 1))).2)).map fun r => (UInt8.ofNat (escI ((L s).drop (k + 1))).1 :: r.1, r.2 + 1 + (escI ((L s).drop (k + 1))).2)) else (unqF (s.size - k) ((L s).drop (k + 1))).map fun r => (s[k] :: r.1, r.2 + 1)).map fun r => (acc ++ r.1, r.2 + k)) := by
      unfold Hid
      rw [HR.out, hd, unqF_cons]
    clear HR hd
    by_cases c1 : s[k].toNat = 34
    · have e1 : ((s[k].toNat : Int) == 34) = true := beqB _ _ (by omega)
      have HF : Hid (unqT s = some (acc, k + 1)) := by
        unfold Hid
        rw [HD.out, if_pos c1]
        simp [Nat.add_comm]
      have hcv := conv_own bytesT hown
      clear HD c1
      go_wp2_with fail
      go_ret2
      exact ⟨by rw [HF.out]; rfl, hbw⟩
    have e1 : ((s[k].toNat : Int) == 34) = false := beqNB _ _ (by omega)
    by_cases c2 : s[k].toNat = 92
    · have e2 : ((s[k].toNat : Int) == 92) = true := beqB _ _ (by omega)
      have HD2 : Hid (unqT s = (if (escI ((L s).drop (k + 1))).2 = 0 then none else (unqF (s.size - k) (((L s).drop (k + 1)).drop (escI ((L s).drop (k + 1))).2)).map fun r => (UInt8.ofNat (escI ((L s).drop (k + 1))).1 :: r.1, r.2 + 1 + (escI ((L s).drop (k + 1))).2)).map fun r => (acc ++ r.1, r.2 + k)) := by unfold Hid; rw [HD.out, if_neg c1, if_pos c2]
      have hLx : L (s.extract (k + 1) s.size) = (L s).drop (k + 1) := L_from s (k + 1)
      have hxs : (s.extract (k + 1) s.size).size ≤ s.size := by rw [ByteArray.size_extract]; omega
      have hlt2 := escI_lt ((L s).drop (k + 1))
      rw [List.length_drop, L_len] at hlt2
      have HC := Lib.hid (fun w' => escape_any (s.extract (k + 1) s.size) w' (by omega))
      rw [hLx] at HC
      have HEW := Lib.hid (HE.out.below hbw)
      clear HD c1 c2 hLx
      generalize hcc : (escI ((L s).drop (k + 1))).1 = c at *
      generalize hnn : (escI ((L s).drop (k + 1))).2 = n at *
      clear hcc hnn
      obtain ⟨hc256, hnl⟩ := hlt2
      go_wp2_with fail
      refine (HC.out _ HEW.out).mono ?_
      rintro e w1 ⟨rfl, hb1⟩
      have hown1 := own_below hown hb1
      have hbw1 := hbw.trans (hb1.mono hz)
      have hz1 := hbw1.size
      clear hown hb1 HC
      by_cases hn : n = 0
      · have hn0 : ((n : Int) == 0) = true := beq_iff_eq.2 (by omega)
        have HF : Hid (unqV (unqT s) = .tuple #[.string ⟨#[]⟩, .int .i64 0]) := by unfold Hid; rw [HD2.out, if_pos hn]; rfl
        clear HD2 hn
        go_wp2_with fail
        go_ret2
        exact ⟨by rw [HF.out]; rfl, hbw1⟩
      · have hn0 : ((n : Int) == 0) = false := beq_eq_false_iff_ne.2 (by omega)
        have HF : Hid (unqT s = (unqF (s.size - (k + 1 + n) + 1) ((L s).drop (k + 1 + n))).map fun r => ((acc ++ [UInt8.ofNat c]) ++ r.1, r.2 + (k + 1 + n))) := by
          unfold Hid
          rw [HD2.out, if_neg hn, List.drop_drop, unqF_fuel (s.size - k) (s.size - (k + 1 + n) + 1) _ (by rw [List.length_drop, L_len]; omega) (by rw [List.length_drop, L_len]; omega), Option.map_map]
          congr 1
          funext r
          simp only [Function.comp, List.append_assoc, List.cons_append, List.nil_append, Prod.mk.injEq, true_and]
          omega
        have hcn : (UInt8.ofNat c).toNat = c := by simp; omega
        have hcv : (c : Int) = ((UInt8.ofNat c).toNat : Int) := by rw [hcn]
        have HCN := Lib.hid hcv
        clear HD2 hn hcn hcv
        go_wp2_with (at_builtin; refine wp_pushM bytesT rfl _ _ rfl hown1 [UInt8.ofNat c] [.int .u8 (c : Int)] (by rw [HCN.out]; rfl) 1 rfl rfl _ rfl rfl (by omega) hz1 ?_; intro v' w2 hown2 hg2 hb2)
        exact ⟨⟨k + 1 + n, acc ++ [UInt8.ofNat c], by omega, by omega, by congr 1; omega, by simp; omega, by rw [List.length_append]; exact hown2, HF, hbw1.trans hb2⟩, by simp [intOf]; omega⟩
    · have e2 : ((s[k].toNat : Int) == 92) = false := beqNB _ _ (by omega)
      have HF : Hid (unqT s = (unqF (s.size - (k + 1) + 1) ((L s).drop (k + 1))).map fun r => ((acc ++ [s[k]]) ++ r.1, r.2 + (k + 1))) := by
        unfold Hid
        rw [HD.out, if_neg c1, if_neg c2, show s.size - (k + 1) + 1 = s.size - k by omega, Option.map_map]
        congr 1
        funext r
        simp only [Function.comp, List.append_assoc, List.cons_append, List.nil_append, Prod.mk.injEq, true_and]
        omega
      clear HD c1 c2
      go_wp2_with (at_builtin; refine wp_pushM bytesT rfl _ _ rfl hown [s[k]] [.int .u8 (s[k].toNat : Int)] rfl 1 rfl rfl _ rfl rfl (by omega) hz ?_; intro v' w2 hown2 hg2 hb2)
      exact ⟨⟨k + 1, acc ++ [s[k]], by omega, by omega, rfl, by simp; omega, by rw [List.length_append]; exact hown2, HF, hbw.trans hb2⟩, by simp [intOf]; omega⟩
end Go.Proofs.YthdninnjjmhpfaaGreatDoor

namespace Go.Proofs.YthdninnjjmhpfaaGreatDoor
open Go.RowKit Go.Shelf
set_option maxHeartbeats 2000000
set_option maxRecDepth 100000

/-- What Parse hands back. -/
def ParPost (w : World) (x : List St × Nat) (e : Ending) (w' : World) : Prop :=
  ∃ v, e = .returned (.tuple #[v, .int .i64 (x.2 : Int)]) ∧ w'.ownsRow w.heap.size 94 3 v x.1.length (x.1.flatMap stk) ∧ Below w.heap.size w w'
theorem ParPost_none {w w' : World} {x : List St × Nat} {a : Nat} (h : x = ([], a)) (hb : Below w.heap.size w w') :
    ParPost w x (.returned (.tuple #[.slice none 0 0, .int .i64 a])) w' := by
  subst h
  exact ⟨_, rfl, World.ownsRow_nil _ _ _ _, hb⟩
def restN (w : World) (R : Nat) : Nat := match w.cell? ⟨R, 0, none⟩ with
  | some (.string r) => r.size
  | _ => 0
theorem beq46 (s : ByteArray) : (s.toList == [46]) = decide (L s = [46]) := by
  rw [toList_L]
  by_cases h : L s = [46]
  · rw [h]; rfl
  · rw [decide_eq_false h, beq_eq_false_iff_ne]; exact h
/-- The captured variable holds r. -/
def Var (w : World) (R : Nat) (r : ByteArray) : Prop := w.cell? ⟨R, 0, none⟩ = some (.string r) ∧ w.frozen? ⟨R, 0, none⟩ = false ∧ R < w.heap.size
theorem Var.set {w : World} {R : Nat} {r : ByteArray} (h : Var w R r) (t : ByteArray) : Var (w.setCell ⟨R, 0, none⟩ (.string t)) R t := by
  obtain ⟨h1, h2, h3⟩ := h
  exact ⟨World.cell?_setCell_same _ _ _ h1, by rw [World.frozen?_setCell]; exact h2, by rw [World.size_setCell]; exact h3⟩
theorem Var.below {w w' : World} {R B : Nat} {r : ByteArray} (h : Var w R r) (hb : Below B w w') (hR : R < B) : Var w' R r :=
  ⟨(hb.cell hR).trans h.1, (hb.frozen hR).trans h.2.1, Nat.lt_of_lt_of_le h.2.2 hb.size⟩
/-- The worlds part in that variable alone. -/
def SetR (R : Nat) (w w' : World) : Prop := ∃ t : ByteArray, w' = w.setCell ⟨R, 0, none⟩ (.string t)
theorem SetR.below {R B : Nat} {a w w' : World} (h : SetR R w w') (hb : Below B a w) (hR : B ≤ R) : Below B a w' := by
  obtain ⟨t, rfl⟩ := h
  exact hb.setCell (p := ⟨R, 0, none⟩) hR _
theorem SetR.own {R : Nat} {w w' : World} (h : SetR R w w') {base : Nat} {e : TypeId} {size : Nat} {v : Value} {n : Nat} {xs : List Value} (ho : w.ownsRow base e size v n xs) (hR : R < base) : w'.ownsRow base e size v n xs := by
  obtain ⟨t, rfl⟩ := h
  exact ownsRow_setCell_below ho (a := ⟨R, 0, none⟩) hR _
theorem SetR.size {R : Nat} {w w' : World} (h : SetR R w w') : w'.heap.size = w.heap.size := by
  obtain ⟨t, rfl⟩ := h
  exact World.size_setCell ..
theorem skip_any (n R : Nat) (r : ByteArray) (w : World) (hV : Var w R r) (hn : n ≤ r.size) :
    Calls Tryz.prog 101 #[.int .i64 n, .pointer (some ⟨R, 0, none⟩)] w fun e w' => e = .returned (.string (r.extract 0 n)) ∧ Var w' R (r.extract n r.size) ∧ SetR R w w' := by
  obtain ⟨hc, hf, hR⟩ := hV
  have HS := Lib.hid (Var.set (w := w) (R := R) (r := r) ⟨hc, hf, hR⟩ (r.extract n r.size))
  go_enter Tryz.func101, Tryz.ntmps101
  go_wp2_with fail
  go_ret
  exact ⟨rfl, HS.out, _, rfl⟩
theorem beq2 (s : ByteArray) (a b : UInt8) : ((s.extract 0 2).toList == [a, b]) = decide ((L s).take 2 = [a, b]) := by
  rw [toList_L, L_upto]
  by_cases h : (L s).take 2 = [a, b]
  · rw [h, decide_eq_true rfl]; simp
  · rw [decide_eq_false h, beq_eq_false_iff_ne]; exact h
theorem At_any (n : Int) (w : World) : Calls Tryz.prog 103 #[.int .i64 n] w fun e w' => e = .returned (.agg #[.bool true, .string ⟨#[]⟩, .int .i64 n]) ∧ Below w.heap.size w w' := by
  go_enter Tryz.func103, Tryz.ntmps103
  go_wp2_with fail
  exact bodyPost_ret (v := .agg #[.bool true, .string ⟨#[]⟩, .int .i64 n]) (by simp [results, Tryz.results103, go_sem]) rfl ⟨rfl, (Below.refl _ w).alloc (Nat.le_refl _) _⟩
theorem Key_any (t : ByteArray) (w : World) : Calls Tryz.prog 105 #[.string t] w fun e w' => e = .returned (.agg #[.bool false, .string t, .int .i64 0]) ∧ Below w.heap.size w w' := by
  go_enter Tryz.func105, Tryz.ntmps105
  go_wp2_with fail
  exact bodyPost_ret (v := .agg #[.bool false, .string t, .int .i64 0]) (by simp [results, Tryz.results105, go_sem]) rfl ⟨rfl, (Below.refl _ w).alloc (Nat.le_refl _) _⟩
theorem own_formS {w : World} {base : Nat} {e : TypeId} {size : Nat} {v : Value} {n : Nat} {xs : List Value} (h : w.ownsRow base e size v n xs) : ∃ A cap, v = .slice A n cap := by
  rcases h.2 with ⟨rfl, h0⟩ | ⟨g, cap, cur, rfl, _⟩
  · subst h0; exact ⟨_, _, rfl⟩
  · exact ⟨_, _, rfl⟩
theorem head1 (r : ByteArray) (h : 0 < r.size) (b : UInt8) : ((r.extract 0 1).toList == [b]) = decide (r[0] = b) := by
  rw [toList_L, L_upto, L_take_succ r 0 h]
  by_cases hb : r[0] = b
  · rw [decide_eq_true hb, hb]; simp
  · rw [decide_eq_false hb, beq_eq_false_iff_ne]
    intro h'
    simp at h'
    exact hb h'
theorem unqF_le : ∀ (f : Nat) (l : List UInt8) (r : List UInt8 × Nat), unqF f l = some r → r.2 ≤ l.length
  | 0, _, _, h => by cases h
  | _ + 1, [], _, h => by cases h
  | f + 1, b :: t, r, h => by
    rw [unqF_cons] at h
    split at h
    · cases h; simp
    split at h
    · split at h
      · cases h
      · cases hu : unqF f (t.drop (escI t).2) with
        | none => rw [hu] at h; cases h
        | some x =>
          rw [hu] at h
          cases h
          have := unqF_le f _ x hu
          have := (escI_lt t).2
          simp only [List.length_drop] at *
          simp only [List.length_cons]
          omega
    · cases hu : unqF f t with
      | none => rw [hu] at h; cases h
      | some x =>
        rw [hu] at h
        cases h
        have := unqF_le f _ x hu
        simp only [List.length_cons]
        omega
theorem loopI_step (k : Nat) (l : List UInt8) (st : St) (l' : List UInt8) (acc : List St) (hk : k ≤ 48) (hl : l ≠ []) (h : stepI l = some (st, l')) :
    (loopI (49 - k) k l).map (fun p => acc ++ p) = (loopI (49 - (k + 1)) (k + 1) l').map (fun p => (acc ++ [st]) ++ p) := by
  rw [show 49 - k = (49 - (k + 1)) + 1 by omega, loopI, if_neg (by rintro (h | h); exact hl h; omega), h]
  simp only [Option.map_map]
  congr 1
  funext p
  simp
theorem loopI_bad (k : Nat) (l : List UInt8) (acc : List St) (hk : k ≤ 48) (hl : l ≠ []) (h : stepI l = none) : (loopI (49 - k) k l).map (fun p => acc ++ p) = none := by
  rw [show 49 - k = (49 - (k + 1)) + 1 by omega, loopI, if_neg (by rintro (h | h); exact hl h; omega), h]
  rfl
theorem loopI_end (k : Nat) (l : List UInt8) (acc : List St) (h : l = [] ∨ 48 < k) : (loopI (49 - k) k l).map (fun p => acc ++ p) = some acc := by
  by_cases hk : k ≤ 48
  · rw [show 49 - k = (49 - (k + 1)) + 1 by omega, loopI, if_pos h]; simp
  · rw [show 49 - k = 0 by omega, loopI]; simp
def stA (t : List UInt8) : Option (St × List UInt8) := if idx93 t = 0 ∨ 6 < idx93 t ∨ idx93 t = t.length then none else match Lib.atoi (t.take (idx93 t)) with
  | some i => some ((true, ⟨#[]⟩, i), t.drop (idx93 t + 1))
  | none => none
def stB (t : List UInt8) : Option (St × List UInt8) := match unqF t.length (t.drop 1) with
  | some r => some ((false, ⟨r.1.toArray⟩, 0), t.drop (r.2 + 1))
  | none => none
def stC6 (t : List UInt8) : Option (St × List UInt8) := if 0 < folL t then some ((false, ⟨(t.take (folL t)).toArray⟩, 0), t.drop (folL t)) else none
theorem step_cases (c : UInt8) (t : List UInt8) : stepI (c :: t) = if c.toNat = 91 then stA t else if c.toNat = 46 then (if t.head? = some 34 then stB t else stC6 t) else none := by
  rw [stepI_cons]
  by_cases h1 : c.toNat = 91
  · rw [if_pos h1, if_pos h1]; rfl
  rw [if_neg h1, if_neg h1]
  by_cases h2 : c.toNat = 46
  · rw [if_pos h2]
    by_cases h3 : t.head? = some 34
    · rw [if_pos ⟨h2, h3⟩, if_pos h3]; rfl
    · rw [if_neg (fun h => h3 h.2), if_neg h3]
      unfold stC6
      by_cases h4 : 0 < folL t
      · rw [if_pos ⟨h2, h4⟩, if_pos h4]
      · rw [if_neg (fun h => h4 h.2), if_neg h4]
  · rw [if_neg h2, if_neg (fun h => h2 h.1), if_neg (fun h => h2 h.1)]
theorem stB_none (t : List UInt8) (h : unqF t.length (t.drop 1) = none) : stB t = none := by unfold stB; rw [h]
theorem stB_some (t : List UInt8) (r : List UInt8 × Nat) (h : unqF t.length (t.drop 1) = some r) : stB t = some ((false, ⟨r.1.toArray⟩, 0), t.drop (r.2 + 1)) := by unfold stB; rw [h]
theorem stA_none (t : List UInt8) (h : idx93 t = 0 ∨ 6 < idx93 t ∨ idx93 t = t.length) : stA t = none := by unfold stA; rw [if_pos h]
theorem stA_bad (t : List UInt8) (h : ¬ (idx93 t = 0 ∨ 6 < idx93 t ∨ idx93 t = t.length)) (h2 : Lib.atoi (t.take (idx93 t)) = none) : stA t = none := by unfold stA; rw [if_neg h, h2]
theorem stA_some (t : List UInt8) (i : Int) (h : ¬ (idx93 t = 0 ∨ 6 < idx93 t ∨ idx93 t = t.length)) (h2 : Lib.atoi (t.take (idx93 t)) = some i) : stA t = some ((true, ⟨#[]⟩, i), t.drop (idx93 t + 1)) := by unfold stA; rw [if_neg h, h2]
theorem Parse_any (s : ByteArray) (w : World) (hs : s.size ≤ 1000000000) (he : Env w) :
    Calls Tryz.prog 69 #[.string s] w (ParPost w (parseL (L s))) := by
  have HC := Lib.hid (fun w' => Valid_any s w' (by omega))
  by_cases hb : badL (L s) = (L s).length
  case neg =>
    have hv : validL (L s) = false := decide_eq_false hb
    have HF : Hid (parseL (L s) = ([], 5)) := by unfold Hid parseL; rw [if_pos hb]
    rw [hv] at HC
    clear hb hv
    go_enter Tryz.func69, Tryz.ntmps69
    go_wp2_with fail
    refine (HC.out _).mono ?_
    rintro e w1 ⟨rfl, rfl⟩
    go_wp2_with fail
    go_ret2
    exact ParPost_none HF.out (Below.refl _ _)
  have hv : validL (L s) = true := decide_eq_true hb
  rw [hv] at HC
  by_cases h46 : L s = [46]
  · have e46 : (s.toList == [46]) = true := by rw [beq46]; exact decide_eq_true h46
    have HF : Hid (parseL (L s) = ([], 0)) := by unfold Hid parseL; rw [if_neg (by omega), if_pos h46]
    clear hb hv h46
    go_enter Tryz.func69, Tryz.ntmps69
    go_wp2_with fail
    refine (HC.out _).mono ?_
    rintro e w1 ⟨rfl, rfl⟩
    go_wp2_with fail
    go_ret2
    exact ParPost_none HF.out (Below.refl _ _)
  have e46 : (s.toList == [46]) = false := by rw [beq46]; exact decide_eq_false h46
  have HF : Hid (parseL (L s) = accept (L s) (loopI 49 0 (strip (L s)))) := by unfold Hid parseL; rw [if_neg (by omega), if_neg h46]
  have HE := Lib.hid he
  clear hb hv he
  go_enter Tryz.func69, Tryz.ntmps69
  go_wp2_with fail
  refine (HC.out _).mono ?_
  rintro e w1 ⟨rfl, rfl⟩
  obtain ⟨B, hB⟩ : ∃ B, decide ((L s).take 2 = [46, 91]) = B := ⟨_, rfl⟩
  have hBr : ∃ r0 : ByteArray, L r0 = strip (L s) ∧ r0 = if B then s.extract 1 s.size else s := by
    refine ⟨if B then s.extract 1 s.size else s, ?_, rfl⟩
    unfold strip
    cases B
    · rw [if_neg (of_decide_eq_false hB)]; rfl
    · rw [if_pos (of_decide_eq_true hB)]; exact L_from s 1
  obtain ⟨r0, hr0, hr0e⟩ := hBr
  have HR0 := Lib.hid hr0
  have HB2 : Hid (((s.extract 0 2).toList == [46, 91]) = B) := by unfold Hid; rw [beq2]; exact hB
  have HB1 : Hid (B = true → 1 < s.size) := by
    unfold Hid
    intro h
    rw [h] at hB
    have := congrArg List.length (of_decide_eq_true hB)
    rw [List.length_take, L_len] at this
    simp at this
    omega
  clear hB hr0
  go_upto_region 7 with fail
  go_cut [27] (fun v wx => v = .bool B ∧ wx = w.alloc (.cells #[.string s] 9))
  case first =>
    go_wp2_with fail
    all_goals
      go_meet
      refine ⟨?_, rfl⟩
      first
        | (show Value.bool _ = _; rw [HB2.out])
        | (show Value.bool false = _
           cases B
           · rfl
           · have := HB1.out rfl; omega)
  case rest =>
    obtain ⟨rfl, rfl⟩ := hcut
    have hcell0 : (w.alloc (.cells #[.string s] 9)).cell? ⟨w.heap.size, 0, none⟩ = some (.string s) := by rw [cell_of_alloc]; rfl
    have hfz0 : (w.alloc (.cells #[.string s] 9)).frozen? ⟨w.heap.size, 0, none⟩ = false := by simp
    have hV0 : Var (w.alloc (.cells #[.string s] 9)) w.heap.size s := ⟨hcell0, hfz0, by simp⟩
    have HV0 := Lib.hid hV0
    have hbw0 : Below w.heap.size w (w.alloc (.cells #[.string s] 9)) := (Below.refl _ w).alloc (Nat.le_refl _) _
    have HBW0 := Lib.hid hbw0
    clear hbw0 hV0
    go_upto_if 27 with fail
    go_cut [] (fun wx => Var wx w.heap.size r0 ∧ Below w.heap.size w wx)
    case first =>
      cases B
      · simp only [Bool.false_eq_true, if_false] at hr0e
        subst hr0e
        go_wp2_with fail
        go_meet
        exact ⟨HV0.out, HBW0.out⟩
      · simp only [if_true] at hr0e
        have h1s := HB1.out rfl
        go_wp2_with fail
        refine (skip_any 1 _ s _ HV0.out (by omega)).mono ?_
        rintro e w1 ⟨rfl, hV1, hS1⟩
        have hbw1 := hS1.below HBW0.out (Nat.le_refl _)
        go_wp2_with fail
        go_meet
        rw [hr0e]
        exact ⟨hV1, hbw1⟩
    case rest =>
      obtain ⟨hVc, hbc⟩ := hcut
      have HVC := Lib.hid hVc
      have HBC := Lib.hid hbc
      clear hVc hbc HB1 HB2 hr0e hcell0 hfz0 HV0 HBW0
      have hR : w.heap.size < w.heap.size + 1 := Nat.lt_succ_self _
      go_wp2_with fail
      go_loopw [6, 7, 8, 9, 10, 11, 12] (fun o _ _ _ _ _ _ wr => ∃ (k : Nat) (r : ByteArray) (acc : List St), k ≤ 49 ∧ acc.length = k ∧ r.size ≤ 1000000000 ∧ Hid (Var wr w.heap.size r) ∧ wr.ownsRow (w.heap.size + 1) 94 3 o k (acc.flatMap stk) ∧ Hid (loopI 49 0 (strip (L s)) = (loopI (49 - k) k (L r)).map fun p => acc ++ p) ∧ Below w.heap.size w wr) (fun _ _ _ _ _ _ _ wr => restN wr w.heap.size)
      case atStart =>
        refine ⟨0, r0, [], by omega, rfl, ?_, HVC.out, World.ownsRow_nil _ _ _ _, ?_, HBC.out⟩
        · have h := congrArg List.length HR0.out
          have h2 : (strip (L s)).length ≤ (L s).length := by unfold strip; split <;> simp
          rw [L_len] at h h2
          omega
        · unfold Hid; rw [HR0.out]; simp
      case round =>
        clear HVC HBC HR0
        obtain ⟨k, r, acc, hk, hal, hrs, HV, hown, HLR, hbw⟩ := hrel
        obtain ⟨A, cap, rfl⟩ := own_formS hown
        obtain ⟨hc0, hf0, hRw⟩ := HV.out
        have hz := hbw.size
        by_cases hex : r.size = 0 ∨ 48 < k
        · have HX : Hid (parseL (L s) = accept (L s) (some acc)) := by
            unfold Hid
            rw [HF.out, HLR.out, loopI_end k (L r) acc]
            rcases hex with h | h
            · exact .inl (List.length_eq_zero_iff.1 (by rw [L_len]; exact h))
            · exact .inr h
          have key : r.toList.isEmpty = true ∨ (r.toList.isEmpty = false ∧ 48 < k) := by
            by_cases h : r.size = 0
            · exact .inl (neE.2 h)
            · right
              exact ⟨by rw [Bool.eq_false_iff, ne_eq, neE]; exact h, by omega⟩
          have hown' : wr.ownsRow w.heap.size 94 3 (.slice A k cap) acc.length (acc.flatMap stk) := by rw [hal]; exact own_low hown (by omega)
          have HO := Lib.hid hown'
          have HRD := Lib.hid (Rd.of_own hown')
          clear hown hown' HLR HF hex
          by_cases hk0 : k = 0
          · have HF2 : Hid (parseL (L s) = ([], 3)) := by
              unfold Hid
              rw [HX.out]
              have : acc = [] := List.length_eq_zero_iff.1 (by omega)
              unfold accept
              simp [this]
            have hk0' : ((k : Int) == 0) = true := by rw [beq_iff_eq]; omega
            clear HX HO HRD
            rcases key with e1 | ⟨e1, e2⟩
            all_goals first
              | omega
              | (go_wp2_with fail
                 go_ret2
                 exact ParPost_none HF2.out hbw)
          have hk0' : ((k : Int) == 0) = false := by rw [beq_eq_false_iff_ne]; omega
          have HPV := Lib.hid (PValid_any (.slice A k cap) acc wr HRD.out)
          cases hv : validP acc
          · have HF2 : Hid (parseL (L s) = ([], 3)) := by unfold Hid; rw [HX.out]; unfold accept; simp [hv]
            rw [hv] at HPV
            clear HX HO HRD hv
            rcases key with e1 | ⟨e1, e2⟩
            all_goals
              go_wp2_with fail
              refine HPV.out.mono ?_
              rintro e w1 ⟨rfl, hb1⟩
              go_wp2_with fail
              go_ret2
              exact ParPost_none HF2.out (hbw.trans (hb1.mono hz))
          rw [hv] at HPV
          obtain ⟨T, hT⟩ : ∃ T : ByteArray, T = ⟨(textL acc).toArray⟩ := ⟨_, rfl⟩
          have hLT : L T = textL acc := by rw [hT]; rfl
          have HPT := Lib.hid (fun w' (hr : Rd w' (.slice A k cap) acc) (he : Env w') => PText_any (.slice A k cap) acc w' hr hv he.t)
          rw [← hT] at HPT
          by_cases heq : textL acc = L s
          · have HF2 : Hid (parseL (L s) = (acc, 0)) := by
              unfold Hid; rw [HX.out]; unfold accept
              simp only []
              rw [if_pos ⟨by intro h; rw [h] at hal; simp at hal; omega, hv, heq⟩]
            have eqs : (T.toList == s.toList) = true := by rw [toList_L, toList_L, hLT, heq]; simp
            clear HX hv heq hT hLT
            rcases key with e1 | ⟨e1, e2⟩
            all_goals
              go_wp2_with fail
              refine HPV.out.mono ?_
              rintro e w1 ⟨rfl, hb1⟩
              have hrd1 := (HRD.out).below hb1
              have hbw1 := hbw.trans (hb1.mono hz)
              have hen1 := (HE.out).below hbw1
              have hown1 := own_below HO.out hb1
              go_wp2_with fail
              refine (HPT.out _ hrd1 hen1).mono ?_
              rintro e w2 ⟨rfl, hb2⟩
              have hown2 := own_below hown1 hb2
              have hbw2 := hbw1.trans (hb2.mono hbw1.size)
              clear hown1 hrd1 hen1
              go_wp2_with fail
              go_ret2
              exact ⟨.slice A k cap, by rw [HF2.out]; rfl, by rw [HF2.out]; exact hown2, hbw2⟩
          · have HF2 : Hid (parseL (L s) = ([], 3)) := by
              unfold Hid; rw [HX.out]; unfold accept
              simp only []
              rw [if_neg (fun h => heq h.2.2)]
            have eqs : (T.toList == s.toList) = false := by rw [toList_L, toList_L, hLT, beq_eq_false_iff_ne]; exact heq
            clear HX hv heq hT hLT HO
            rcases key with e1 | ⟨e1, e2⟩
            all_goals
              go_wp2_with fail
              refine HPV.out.mono ?_
              rintro e w1 ⟨rfl, hb1⟩
              have hrd1 := (HRD.out).below hb1
              have hbw1 := hbw.trans (hb1.mono hz)
              have hen1 := (HE.out).below hbw1
              go_wp2_with fail
              refine (HPT.out _ hrd1 hen1).mono ?_
              rintro e w2 ⟨rfl, hb2⟩
              have hbw2 := hbw1.trans (hb2.mono hbw1.size)
              clear hrd1 hen1
              go_wp2_with fail
              go_ret2
              exact ParPost_none HF2.out hbw2
        have hr1 : 0 < r.size := by omega
        have hk48 : k ≤ 48 := by omega
        have e1 : r.toList.isEmpty = false := by rw [Bool.eq_false_iff, ne_eq, neE]; omega
        have hd0 := L_drop r 0 hr1
        rw [List.drop_zero, ← L_from r 1] at hd0
        have hxs : (r.extract 1 r.size).size = r.size - 1 := by rw [ByteArray.size_extract]; omega
        have h91 := head1 r hr1 91
        have h46 := head1 r hr1 46
        have HSK := Lib.hid (skip_any 1 w.heap.size r wr HV.out (by omega))
        have hrest : restN wr w.heap.size = r.size := by unfold restN; rw [hc0]
        have HREST := Lib.hid hrest
        have hbad : stepI (L r) = none → Hid (parseL (L s) = ([], 3)) := by
          intro h
          unfold Hid
          rw [HF.out, HLR.out, loopI_bad k (L r) acc hk48 (by rw [hd0]; simp) h]
          rfl
        have hgood : ∀ st l', stepI (L r) = some (st, l') → Hid (loopI 49 0 (strip (L s)) = (loopI (49 - (k + 1)) (k + 1) l').map fun p => (acc ++ [st]) ++ p) := by
          intro st l' h
          unfold Hid
          rw [HLR.out, loopI_step k (L r) st l' acc hk48 (by rw [hd0]; simp) h]
        have HBAD := Lib.hid hbad; clear hbad
        have HGOOD := Lib.hid hgood; clear hgood
        have hsc := step_cases r[0] (L (r.extract 1 r.size))
        rw [← hd0] at hsc
        have HSC := Lib.hid hsc
        clear hsc hd0 hrest HLR hex HV
        generalize r.extract 1 r.size = t at *
        have hts : t.size < r.size := by omega
        obtain ⟨c, hc⟩ : ∃ c, r[0] = c := ⟨_, rfl⟩
        rw [hc] at h91 h46 HSC
        clear hc
        by_cases c91 : c = 91
        case neg =>
          have e91 : ((r.extract 0 1).toList == [91]) = false := by rw [h91]; exact decide_eq_false c91
          have hn91 : ¬ c.toNat = 91 := by intro h; exact c91 (u8_of h)
          have HSC2 : Hid (stepI (L r) = if c.toNat = 46 then (if (L t).head? = some 34 then stB (L t) else stC6 (L t)) else none) := by unfold Hid; rw [HSC.out, if_neg hn91]
          clear HSC c91
          by_cases c46 : c = 46
          case neg =>
            have e46' : ((r.extract 0 1).toList == [46]) = false := by rw [h46]; exact decide_eq_false c46
            have hn46 : ¬ c.toNat = 46 := by intro h; exact c46 (u8_of h)
            have HFB := HBAD.out (by rw [HSC2.out, if_neg hn46])
            clear HSC2 HBAD HGOOD hn91 hn46 c46
            go_wp2_with fail
            refine HSK.out.mono ?_
            rintro e w1 ⟨rfl, hV1, hS1⟩
            have hbw1 := hS1.below hbw (Nat.le_refl _)
            have hown1 := hS1.own hown hR
            have hV1' := Lib.hid hV1
            obtain ⟨hc1, hf1, hR1⟩ := hV1
            clear hc0 hf0 hown HSK h91 h46 hS1
            go_wp2_with fail
            go_ret2
            exact ParPost_none HFB.out hbw1
          have e46' : ((r.extract 0 1).toList == [46]) = true := by rw [h46]; exact decide_eq_true c46
          have h46n : c.toNat = 46 := by rw [c46]; rfl
          by_cases ht0 : t.size = 0
          · have et : t.toList.isEmpty = true := neE.2 ht0
            have hLt : L t = [] := List.length_eq_zero_iff.1 (by rw [L_len]; exact ht0)
            have HFB := HBAD.out (by rw [HSC2.out, hLt, if_pos h46n]; rfl)
            have HFO := Lib.hid (follows_any t)
            have hf0' : folL (L t) = 0 := by rw [hLt]; rfl
            rw [hf0'] at HFO
            clear HSC2 HBAD HGOOD hn91 h46n c46 hLt hf0'
            go_wp2_with fail
            refine HSK.out.mono ?_
            rintro e w1 ⟨rfl, hV1, hS1⟩
            have hbw1 := hS1.below hbw (Nat.le_refl _)
            have hown1 := hS1.own hown hR
            have hV1' := Lib.hid hV1
            obtain ⟨hc1, hf1, hR1⟩ := hV1
            clear hc0 hf0 hown HSK h91 h46 hS1
            go_wp2_with (go_at_call 77; refine (HFO.out _ (by omega)).mono ?_; rintro e w2 ⟨rfl, rfl⟩)
            go_ret2
            exact ParPost_none HFB.out hbw1
          have ht1 : 0 < t.size := by omega
          have et : t.toList.isEmpty = false := by rw [Bool.eq_false_iff, ne_eq, neE]; exact ht0
          have hhd : (L t).head? = some t[0] := by
            have := L_drop t 0 ht1
            rw [List.drop_zero] at this
            rw [this]; rfl
          by_cases h34 : t[0].toNat = 34
          · have e34 : ((t[0].toNat : Int) == 34) = true := beqB _ _ (by omega)
            have HSC3 : Hid (stepI (L r) = stB (L t)) := by unfold Hid; rw [HSC2.out, if_pos h46n, if_pos (by rw [hhd, u8_of h34]; rfl)]
            have hBn := stB_none (L t)
            have hBs := stB_some (L t)
            have HUQ := Lib.hid (fun w' => unquote_any t w' (by omega) (by omega))
            have hle := unqF_le (L t).length ((L t).drop 1)
            rw [List.length_drop, L_len] at hle
            have hUT : unqT t = (unqF (L t).length ((L t).drop 1)).map fun r => (r.1, r.2 + 1) := by unfold unqT; rw [L_len]
            rw [hUT] at HUQ
            rw [L_len] at HUQ hBn hBs
            clear HSC2 hn91 h46n c46 hhd hUT
            generalize unqF t.size ((L t).drop 1) = U at *
            cases U with
            | none =>
              have HFB := HBAD.out (by rw [HSC3.out]; exact hBn rfl)
              have HUV : Hid (unqV (Option.map (fun r => (r.1, r.2 + 1)) (none : Option (List UInt8 × Nat))) = .tuple #[.string ⟨#[]⟩, .int .i64 0]) := rfl
              clear HSC3 HBAD HGOOD hle hBn hBs
              go_wp2_with fail
              refine HSK.out.mono ?_
              rintro e w1 ⟨rfl, hV1, hS1⟩
              have hbw1 := hS1.below hbw (Nat.le_refl _)
              have hown1 := hS1.own hown hR
              have hV1' := Lib.hid hV1
              obtain ⟨hc1, hf1, hR1⟩ := hV1
              clear hc0 hf0 hown HSK h91 h46 hS1
              have hen1 := (HE.out).below hbw1
              go_wp2_with fail
              refine (HUQ.out _ hen1).mono ?_
              rintro e w2 ⟨rfl, hb2⟩
              rw [HUV.out]
              have hbw2 := hbw1.trans (hb2.mono hbw1.size)
              clear hen1 hown1
              go_wp2_with fail
              go_ret2
              exact ParPost_none HFB.out hbw2
            | some x =>
              obtain ⟨x1, x2⟩ := x
              have hx2 := hle (x1, x2) rfl
              simp only [] at hx2
              have HG := HGOOD.out _ _ (by rw [HSC3.out]; exact hBs _ rfl)
              have HUV : Hid (unqV (Option.map (fun r => (r.1, r.2 + 1)) (some (x1, x2))) = .tuple #[.string ⟨x1.toArray⟩, .int .i64 ((x2 + 1 : Nat) : Int)]) := rfl
              have hx0 : (((x2 + 1 : Nat) : Int) == 0) = false := by rw [beq_eq_false_iff_ne]; omega
              clear HSC3 HBAD HGOOD hle hBn hBs
              go_wp2_with fail
              refine HSK.out.mono ?_
              rintro e w1 ⟨rfl, hV1, hS1⟩
              have hbw1 := hS1.below hbw (Nat.le_refl _)
              have hown1 := hS1.own hown hR
              have hV1' := Lib.hid hV1
              obtain ⟨hc1, hf1, hR1⟩ := hV1
              clear hc0 hf0 hown HSK h91 h46 hS1
              have hen1 := (HE.out).below hbw1
              go_wp2_with fail
              refine (HUQ.out _ hen1).mono ?_
              rintro e w2 ⟨rfl, hb2⟩
              rw [HUV.out]
              have hbw2 := hbw1.trans (hb2.mono hbw1.size)
              have hown2 := own_below hown1 hb2
              have hV2 := (hV1'.out).below hb2 hR1
              clear hen1 hown1 hc1 hf1 hb2 HUQ
              generalize hxn : x2 + 1 = n at *
              obtain ⟨hc2, hf2, hR2⟩ := hV2
              have HV2 := Lib.hid (⟨hc2, hf2, hR2⟩ : Var w2 w.heap.size t)
              go_wp2_with fail
              refine (skip_any n w.heap.size t w2 HV2.out (by omega)).mono ?_
              rintro e w3 ⟨rfl, hV3, hS3⟩
              have hbw3 := hS3.below hbw2 (Nat.le_refl _)
              have hown3 := hS3.own hown2 hR
              have HV3 := Lib.hid hV3
              clear hown2 hS3 hV3 hc2 hf2
              go_wp2_with fail
              refine (Key_any _ w3).mono ?_
              rintro e w4 ⟨rfl, hb4⟩
              have hV4 := (HV3.out).below hb4 (HV3.out).2.2
              have hown4 := own_below hown3 hb4
              have hbw4 := hbw3.trans (hb4.mono hbw3.size)
              have hR4 := hV4.2.2
              have HV4 := Lib.hid hV4
              clear hown3 hb4 hV4
              go_wp2_with (at_builtin; refine wp_push elem_step rfl _ _ rfl hown4 (stk (false, ⟨x1.toArray⟩, 0)) rfl (stk_one _) rfl rfl (by omega) hR4 ?_; intro v' w5 hown5 hg5 hb5)
              have hV5 := (HV4.out).below hb5 hR
              have hxt : (t.extract n t.size).size = t.size - n := by rw [ByteArray.size_extract]; omega
              refine ⟨⟨k + 1, t.extract n t.size, acc ++ [(false, ⟨x1.toArray⟩, 0)], by omega, by simp; omega, by omega, hV5, by rw [List.flatMap_append]; simpa using hown5, by rw [L_from]; exact HG, hbw4.trans (hb5.mono (by omega))⟩, ?_⟩
              rw [HREST.out]
              show restN _ _ < _
              unfold restN
              rw [hV5.1]
              show (t.extract n t.size).size < _
              omega
          · have e34 : ((t[0].toNat : Int) == 34) = false := beqNB _ _ (by omega)
            have HSC3 : Hid (stepI (L r) = if 0 < folL (L t) then some ((false, ⟨((L t).take (folL (L t))).toArray⟩, 0), (L t).drop (folL (L t))) else none) := by
              unfold Hid
              rw [HSC2.out, if_pos h46n, if_neg]
              · rfl
              · intro h
                rw [hhd] at h
                simp only [Option.some.injEq] at h
                rw [h] at h34
                exact h34 (by decide)
            have hfle := folL_le (L t)
            rw [L_len] at hfle
            have HFO := Lib.hid (follows_any t)
            have hkt : (⟨((L t).take (folL (L t))).toArray⟩ : ByteArray) = t.extract 0 (folL (L t)) := L_inj (by rw [L_upto]; rfl)
            rw [hkt] at HSC3
            clear HSC2 hn91 h46n c46 hhd h34 hkt
            generalize folL (L t) = f at *
            by_cases hf : 0 < f
            case neg =>
              have HFB := HBAD.out (by rw [HSC3.out, if_neg hf])
              have hf' : ¬ (0 : Int) < f := by omega
              clear HSC3 HBAD HGOOD hf
              go_wp2_with fail
              refine HSK.out.mono ?_
              rintro e w1 ⟨rfl, hV1, hS1⟩
              have hbw1 := hS1.below hbw (Nat.le_refl _)
              have hown1 := hS1.own hown hR
              have hV1' := Lib.hid hV1
              obtain ⟨hc1, hf1, hR1⟩ := hV1
              clear hc0 hf0 hown HSK h91 h46 hS1
              go_wp2_with (go_at_call 77; refine (HFO.out _ (by omega)).mono ?_; rintro e w2 ⟨rfl, rfl⟩)
              go_ret2
              exact ParPost_none HFB.out hbw1
            have HG := HGOOD.out _ _ (by rw [HSC3.out, if_pos hf])
            have hf' : (0 : Int) < f := by omega
            clear HSC3 HBAD HGOOD hf
            go_wp2_with fail
            refine HSK.out.mono ?_
            rintro e w1 ⟨rfl, hV1, hS1⟩
            have hbw1 := hS1.below hbw (Nat.le_refl _)
            have hown1 := hS1.own hown hR
            have hV1' := Lib.hid hV1
            obtain ⟨hc1, hf1, hR1⟩ := hV1
            clear hc0 hf0 hown HSK h91 h46 hS1
            go_wp2_with (go_at_call 77; refine (HFO.out _ (by omega)).mono ?_; rintro e w2 ⟨rfl, rfl⟩)
            refine (skip_any f w.heap.size t w1 hV1'.out hfle).mono ?_
            rintro e w3 ⟨rfl, hV3, hS3⟩
            have hbw3 := hS3.below hbw1 (Nat.le_refl _)
            have hown3 := hS3.own hown1 hR
            have HV3 := Lib.hid hV3
            clear hown1 hS3 hV3 hc1 hf1
            go_wp2_with fail
            refine (Key_any _ w3).mono ?_
            rintro e w4 ⟨rfl, hb4⟩
            have hV4 := (HV3.out).below hb4 (HV3.out).2.2
            have hown4 := own_below hown3 hb4
            have hbw4 := hbw3.trans (hb4.mono hbw3.size)
            have hR4 := hV4.2.2
            have HV4 := Lib.hid hV4
            clear hown3 hb4 hV4
            go_wp2_with (at_builtin; refine wp_push elem_step rfl _ _ rfl hown4 (stk (false, t.extract 0 f, 0)) rfl (stk_one _) rfl rfl (by omega) hR4 ?_; intro v' w5 hown5 hg5 hb5)
            have hV5 := (HV4.out).below hb5 hR
            have hxt : (t.extract f t.size).size = t.size - f := by rw [ByteArray.size_extract]; omega
            refine ⟨⟨k + 1, t.extract f t.size, acc ++ [(false, t.extract 0 f, 0)], by omega, by simp; omega, by omega, hV5, by rw [List.flatMap_append]; simpa using hown5, by rw [L_from]; exact HG, hbw4.trans (hb5.mono (by omega))⟩, ?_⟩
            rw [HREST.out]
            show restN _ _ < _
            unfold restN
            rw [hV5.1]
            show (t.extract f t.size).size < _
            omega
        have e91 : ((r.extract 0 1).toList == [91]) = true := by rw [h91]; exact decide_eq_true c91
        have h91n : c.toNat = 91 := by rw [c91]; rfl
        have HSC2 : Hid (stepI (L r) = stA (L t)) := by unfold Hid; rw [HSC.out, if_pos h91n]
        clear HSC h91n c91
        go_wp2_with fail
        refine HSK.out.mono ?_
        rintro e w1 ⟨rfl, hV1, hS1⟩
        have hbw1 := hS1.below hbw (Nat.le_refl _)
        have hown1 := hS1.own hown hR
        have hV1' := Lib.hid hV1
        obtain ⟨hc1, hf1, hR1⟩ := hV1
        clear hc0 hf0 hown HSK h91 h46 hS1
        go_wp2_with fail
        go_loop [8] (fun n => ∃ j : Nat, j ≤ t.size ∧ n = .int .i64 j ∧ Hid (idx93 (L t) = j + idx93 ((L t).drop j))) (fun n => t.size - (intOf n).toNat)
        case atStart => exact ⟨0, Nat.zero_le _, rfl, by unfold Hid; simp⟩
        case round =>
          obtain ⟨j, hj, rfl, HI⟩ := hrel
          have HNONE := Lib.hid (stA_none (L t))
          have HABAD := Lib.hid (stA_bad (L t))
          have HASOME := Lib.hid (stA_some (L t))
          by_cases hjt : j < t.size
          case neg =>
            have hidx : idx93 (L t) = t.size := by
              rw [HI.out, L_drop_nil t j (by omega)]
              show j + 0 = _
              omega
            have HFB := HBAD.out (by rw [HSC2.out]; exact HNONE.out (.inr (.inr (by rw [hidx, L_len]))))
            have hjn : ((j : Int) == t.size) = true := by rw [beq_iff_eq]; omega
            have hj0 : j = 0 ∨ 0 < j := by omega
            clear HSC2 HBAD HGOOD HI HNONE HABAD HASOME hidx
            by_cases g0 : j = 0
            · have g0' : ((j : Int) == 0) = true := by rw [beq_iff_eq]; omega
              go_wp2_with fail
              go_ret2
              exact ParPost_none HFB.out hbw1
            have g0' : ((j : Int) == 0) = false := by rw [beq_eq_false_iff_ne]; omega
            by_cases g6 : 6 < j
            · have g6' : (6 : Int) < j := by omega
              go_wp2_with fail
              go_ret2
              exact ParPost_none HFB.out hbw1
            · have g6' : ¬ (6 : Int) < j := by omega
              go_wp2_with fail
              go_ret2
              exact ParPost_none HFB.out hbw1
          have hd := L_drop t j hjt
          by_cases h93 : t[j].toNat = 93
          case neg =>
            have HI2 : Hid (idx93 (L t) = (j + 1) + idx93 ((L t).drop (j + 1))) := by
              unfold Hid
              rw [HI.out, hd]
              simp only [idx93]
              rw [if_neg h93]
              omega
            have e93 : ((t[j].toNat : Int) != 93) = true := by rw [bne_iff_ne]; omega
            clear HI hd HSC2 HBAD HGOOD HNONE HABAD HASOME
            go_wp2_with fail
            exact ⟨⟨j + 1, by omega, rfl, HI2⟩, by simp [intOf]; omega⟩
          have e93 : ((t[j].toNat : Int) != 93) = false := by rw [bne_eq_false_iff_eq]; omega
          have hidx : idx93 (L t) = j := by
            rw [HI.out, hd]
            simp only [idx93]
            rw [if_pos h93]
            rfl
          rw [hidx, L_len] at HNONE HABAD HASOME
          have hjn : ((j : Int) == t.size) = false := by rw [beq_eq_false_iff_ne]; omega
          clear HI hd h93 hidx
          by_cases g0 : j = 0
          · have g0' : ((j : Int) == 0) = true := by rw [beq_iff_eq]; omega
            have HFB := HBAD.out (by rw [HSC2.out]; exact HNONE.out (.inl g0))
            clear HSC2 HBAD HGOOD HNONE HABAD HASOME g0
            go_wp2_with fail
            go_ret2
            exact ParPost_none HFB.out hbw1
          have g0' : ((j : Int) == 0) = false := by rw [beq_eq_false_iff_ne]; omega
          by_cases g6 : 6 < j
          · have g6' : (6 : Int) < j := by omega
            have HFB := HBAD.out (by rw [HSC2.out]; exact HNONE.out (.inr (.inl g6)))
            clear HSC2 HBAD HGOOD HNONE HABAD HASOME
            go_wp2_with fail
            go_ret2
            exact ParPost_none HFB.out hbw1
          have g6' : ¬ (6 : Int) < j := by omega
          have hno : ¬ (j = 0 ∨ 6 < j ∨ j = t.size) := by omega
          have hLx : L (t.extract 0 j) = (L t).take j := L_upto t j
          have hxz : (t.extract 0 j).size = j := by rw [ByteArray.size_extract]; omega
          have HA1 := Lib.hid (fun n => Atoi_ok (t.extract 0 j) n (by omega))
          have HA2 := Lib.hid (Atoi_no (t.extract 0 j) (by omega))
          rw [hLx] at HA1 HA2
          have hab := HABAD.out hno
          have hag := fun i => HASOME.out i hno
          clear HNONE HABAD HASOME hLx hxz
          generalize hat : Lib.atoi ((L t).take j) = at1 at *
          cases at1 with
          | none =>
            have HFB := HBAD.out (by rw [HSC2.out]; exact hab rfl)
            clear HSC2 HBAD HGOOD hab hag hat
            go_wp2_with fail
            refine (skip_any j w.heap.size t w1 hV1'.out (by omega)).mono ?_
            rintro e w2 ⟨rfl, hV2, hS2⟩
            have hbw2 := hS2.below hbw1 (Nat.le_refl _)
            have hen2 := (HE.out).below hbw2
            clear hS2 hV2 hc1 hf1
            go_wp2_with fail
            refine (HA2.out trivial _ hen2).mono ?_
            rintro e w3 ⟨⟨N, rfl⟩, hb3⟩
            have hbw3 := hbw2.trans (hb3.mono hbw2.size)
            clear hen2
            go_wp2_with fail
            go_ret2
            exact ParPost_none HFB.out hbw3
          | some i =>
            have HG := HGOOD.out _ _ (by rw [HSC2.out]; exact hag i rfl)
            clear HSC2 HBAD HGOOD hab hag hat
            go_wp2_with fail
            refine (skip_any j w.heap.size t w1 hV1'.out (by omega)).mono ?_
            rintro e w2 ⟨rfl, hV2, hS2⟩
            have hbw2 := hS2.below hbw1 (Nat.le_refl _)
            have hown2 := hS2.own hown1 hR
            have HV2 := Lib.hid hV2
            clear hS2 hV2 hc1 hf1 hown1
            go_wp2_with fail
            refine (HA1.out i rfl _).mono ?_
            rintro e w3 ⟨rfl, hb3⟩
            have hbw3 := hbw2.trans (hb3.mono hbw2.size)
            have hown3 := own_below hown2 hb3
            have hV3 := (HV2.out).below hb3 (HV2.out).2.2
            clear hown2 hb3
            obtain ⟨hc3, hf3, hR3⟩ := hV3
            have HV3 := Lib.hid (⟨hc3, hf3, hR3⟩ : Var w3 w.heap.size (t.extract j t.size))
            have hxt : (t.extract j t.size).size = t.size - j := by rw [ByteArray.size_extract]; omega
            have hLr : L ((t.extract j t.size).extract 1 (t.extract j t.size).size) = (L t).drop (j + 1) := by rw [L_from, L_from, List.drop_drop]
            have hrz : ((t.extract j t.size).extract 1 (t.extract j t.size).size).size = t.size - j - 1 := by rw [ByteArray.size_extract, hxt]; omega
            have HS3 := Lib.hid (skip_any 1 w.heap.size (t.extract j t.size) w3 HV3.out (by omega))
            rw [← hLr] at HG
            clear HV3 hLr
            go_wp2_with fail
            refine (HS3.out).mono ?_
            rintro e w4 ⟨rfl, hV4, hS4⟩
            have hbw4 := hS4.below hbw3 (Nat.le_refl _)
            have hown4 := hS4.own hown3 hR
            have HV4 := Lib.hid hV4
            clear hS4 hV4 hown3 hc3 hf3
            go_wp2_with fail
            refine (At_any i w4).mono ?_
            rintro e w5 ⟨rfl, hb5⟩
            have hV5 := (HV4.out).below hb5 (HV4.out).2.2
            have hown5 := own_below hown4 hb5
            have hbw5 := hbw4.trans (hb5.mono hbw4.size)
            have hR5 := hV5.2.2
            have HV5 := Lib.hid hV5
            clear hown4 hb5 hV5
            go_wp2_with (at_builtin; refine wp_push elem_step rfl _ _ rfl hown5 (stk (true, ⟨#[]⟩, i)) rfl (stk_one _) rfl rfl (by omega) hR5 ?_; intro v' w6 hown6 hg6 hb6)
            have hV6 := (HV5.out).below hb6 hR
            refine ⟨⟨k + 1, (t.extract j t.size).extract 1 (t.extract j t.size).size, acc ++ [(true, ⟨#[]⟩, i)], by omega, by simp; omega, by omega, hV6, by rw [List.flatMap_append]; simpa using hown6, HG, hbw5.trans (hb6.mono (by omega))⟩, ?_⟩
            rw [HREST.out]
            show restN _ _ < _
            unfold restN
            rw [hV6.1]
            show ((t.extract j t.size).extract 1 (t.extract j t.size).size).size < _
            omega
end Go.Proofs.YthdninnjjmhpfaaGreatDoor

namespace Go.Proofs.YthdninnjjmhpfaaGreatDoor
open Go.RowKit
set_option maxHeartbeats 8000000
set_option maxRecDepth 100000

abbrev c00 : CC := ⟨0, .slice none 0 0, 0, c0F, c0F⟩
theorem drewNB (w : World) (n : Nat) : Below w.heap.size w (w.drewN n) := ⟨rfl, rfl, rfl, Nat.le_refl _, fun _ _ => rfl⟩
theorem name_q (op : Int) (w : World) : Calls Tryz.prog 34 #[.int .i64 op] w fun e w' => e = .returned (.string (nameS op)) ∧ w' = w := (name_any op w).mono fun _ _ h => ⟨h.1, h.2.symm⟩
/-- The function's own boxes: the value, the result, the change under way. -/
structure RW (w w' : World) (cv : VC) (cc : CC) : Prop where
  b : Below w.heap.size w w'
  x1 : w'.heap[w.heap.size]? = some (.cells (VC.cells cv).toArray 30 (0, 0))
  x2 : w'.heap[w.heap.size + 1]? = some (.cells (CC.cells c00).toArray 54 (0, 0))
  x4 : w'.heap[w.heap.size + 1 + 1]? = some (.cells (CC.cells cc).toArray 54 (0, 0))
  z : w.heap.size + 3 ≤ w'.heap.size
theorem RW.below {w w' w2 : World} {cv : VC} {cc : CC} (h : RW w w' cv cc) (hb : Below w'.heap.size w' w2) : RW w w2 cv cc :=
  ⟨h.b.trans (hb.mono h.b.size), (hb.block _ (by have := h.z; omega)).trans h.x1, (hb.block _ (by have := h.z; omega)).trans h.x2, (hb.block _ (by have := h.z; omega)).trans h.x4, Nat.le_trans h.z hb.size⟩
theorem RW.set {w w' w2 : World} {cv : VC} {cc c2 : CC} (h : RW w w' cv cc) (hW : w'.setRow (w.heap.size + 1 + 1) (CC.cells c2).toArray = w2) : RW w w2 cv c2 ∧ (∀ b, b ≠ w.heap.size + 1 + 1 → w2.heap[b]? = w'.heap[b]?) ∧ w2.heap.size = w'.heap.size := by
  obtain ⟨h1, h2, h3, h4⟩ := setRow_of hW h.x4
  exact ⟨⟨h.b.trans (h4 _ (by omega)), (h2 _ (by omega)).trans h.x1, (h2 _ (by omega)).trans h.x2, h1, by have := h.z; omega⟩, h2, h3⟩
/-- Another box of the call's own is stored into. -/
theorem RW.far {w w' w2 : World} {cv : VC} {cc : CC} {g : Nat} (h : RW w w' cv cc) (hg : w'.grownBy w2 (some g)) (h3 : w.heap.size + 3 ≤ g) : RW w w2 cv cc :=
  ⟨⟨hg.os.trans h.b.os, hg.tape.trans h.b.tape, hg.output.trans h.b.output, Nat.le_trans h.b.size hg.size, fun b hb => (hg.block b (by have := h.z; omega) (fun he => by cases he; omega)).trans (h.b.block b hb)⟩, (hg.block _ (by have := h.z; omega) (fun he => by cases he; omega)).trans h.x1, (hg.block _ (by have := h.z; omega) (fun he => by cases he; omega)).trans h.x2, (hg.block _ (by have := h.z; omega) (fun he => by cases he; omega)).trans h.x4, Nat.le_trans h.z hg.size⟩
/-- What read hands back. -/
def ReadPost (w : World) (x : Ch × Nat) (e : Ending) (w' : World) : Prop := ∃ c, e = .returned (.tuple #[aggC c, .int .i64 (x.2 : Nat)]) ∧ (∀ u ∈ c.cells, u.oneCell' = true) ∧ (x.2 = 0 → RdC w' (fun b => w.heap.size ≤ b) c x.1) ∧ Below w.heap.size w w'
theorem one_cc {c : CC} (ho : ∀ u ∈ c.o.cells, u.oneCell' = true) (hn : ∀ u ∈ c.n.cells, u.oneCell' = true) (hp : c.p.oneCell' = true) : ∀ u ∈ c.cells, u.oneCell' = true := by
  intro u hu
  unfold CC.cells at hu
  rcases List.mem_cons.1 hu with rfl | hu
  · rfl
  rcases List.mem_cons.1 hu with rfl | hu
  · exact hp
  rcases List.mem_cons.1 hu with rfl | hu
  · rfl
  rcases List.mem_append.1 hu with hu | hu
  · exact ho u hu
  · exact hn u hu
theorem one_c0 : ∀ u ∈ c0F.cells, u.oneCell' = true := vc_one (v0_rdF (default : World) (fun _ => True))
theorem fl_len {w : World} {S : Nat → Prop} {c : VC} {v : V} (h : RdI w S c v) : ∃ a m, c.f = .slice a (flV v).length m ∧ (flV v).length ≤ 140737488351232 := by
  cases h with
  | mk h l f bv lv fv lc fc ok hb hl hL hf hK hF sb sl sf =>
    obtain ⟨a, m, h1, -, h2, -⟩ := hf
    exact ⟨a, m, h1, h2.1⟩
theorem rd_head {w : World} {S : Nat → Prop} {c : VC} {v : V} (h : RdI w S c v) : c.h = hdV v := by
  cases h; rfl
theorem rd_ok {w : World} {S : Nat → Prop} {c : VC} {v : V} (h : RdI w S c v) : HdOk c.h := by
  cases h; assumption
theorem stP : (Tryz.prog.info? 52).map (·.size) = some 1 := by kernel_rfl
/-- The boxes, the path, and how many fields are left. -/
structure RT (w w' : World) (cv : VC) (cc : CC) (pv : Value) (pl : List St) (gl : Nat) (n : Int) : Prop where
  rw : RW w w' cv cc
  rp : Rd w' pv pl
  bp : BlkIn (fun b => w.heap.size + 3 ≤ b ∧ b < gl) pv
  l : w'.heap[gl]? = some (.cells #[.int .i64 n] 3 (0, 0))
  g : w.heap.size + 3 ≤ gl
theorem RT.below {w w' w2 : World} {cv : VC} {cc : CC} {pv : Value} {pl : List St} {gl : Nat} {n : Int} (h : RT w w' cv cc pv pl gl n) (hb : Below w'.heap.size w' w2) : RT w w2 cv cc pv pl gl n :=
  ⟨h.rw.below hb, h.rp.below hb, h.bp, (hb.block gl (Array.getElem?_eq_some_iff.1 h.l).1).trans h.l, h.g⟩
theorem RT.take {w w' w2 : World} {cv : VC} {cc : CC} {pv : Value} {pl : List St} {gl : Nat} {n n2 : Int} (h : RT w w' cv cc pv pl gl n) (hg : w'.grownBy w2 (some gl)) (hl : w2.heap[gl]? = some (.cells #[.int .i64 n2] 3 (0, 0))) : RT w w2 cv cc pv pl gl n2 :=
  ⟨h.rw.far hg h.g, h.rp.kept h.bp (fun b hb hb' => hg.block b hb' (fun he => by cases he; omega)) hg.size, h.bp, hl, h.g⟩
theorem RT.rdc {w w' : World} {cv : VC} {op : Int} {pv : Value} {pl : List St} {gl : Nat} {n : Int} (h : RT w w' cv ⟨op, pv, 0, c0F, c0F⟩ pv pl gl n) (h0 : 0 ≤ op ∧ op ≤ 4) : RdC w' (fun _ => True) ⟨op, pv, 0, c0F, c0F⟩ ⟨op, pl, 0, v0, v0⟩ :=
  ⟨rfl, rfl, ⟨by show _ ≤ op; omega, by show op ≤ _; omega⟩, i64_0, h.rp, h.bp.mono fun _ _ => trivial, v0_rdF _ _, v0_rdF _ _⟩
theorem b1_le (b : Bool) : b1 b ≤ 1 := by cases b <;> decide
/-- The three further fields, each in a box. -/
structure ST3 (w w' : World) (cv : VC) (cc : CC) (pv : Value) (pl : List St) (gl : Nat) (n : Int) (g13 g15 g17 : Nat) (c13 c15 c17 : VC) (x13 x15 x17 : V) : Prop where
  t : RT w w' cv cc pv pl gl n
  b13 : w'.heap[g13]? = some (.cells (VC.cells c13).toArray 30 (0, 0))
  b15 : w'.heap[g15]? = some (.cells (VC.cells c15).toArray 30 (0, 0))
  b17 : w'.heap[g17]? = some (.cells (VC.cells c17).toArray 30 (0, 0))
  r13 : RdI w' (fun b => gl < b) c13 x13
  r15 : RdI w' (fun b => gl < b) c15 x15
  r17 : RdI w' (fun b => gl < b) c17 x17
  g13 : gl < g13
  g15 : gl < g15
  g17 : gl < g17
theorem ST3.below {w w' w2 : World} {cv : VC} {cc : CC} {pv : Value} {pl : List St} {gl : Nat} {n : Int} {g13 g15 g17 : Nat} {c13 c15 c17 : VC} {x13 x15 x17 : V} (h : ST3 w w' cv cc pv pl gl n g13 g15 g17 c13 c15 c17 x13 x15 x17) (hb : Below w'.heap.size w' w2) : ST3 w w2 cv cc pv pl gl n g13 g15 g17 c13 c15 c17 x13 x15 x17 :=
  ⟨h.t.below hb, (hb.block _ (Array.getElem?_eq_some_iff.1 h.b13).1).trans h.b13, (hb.block _ (Array.getElem?_eq_some_iff.1 h.b15).1).trans h.b15, (hb.block _ (Array.getElem?_eq_some_iff.1 h.b17).1).trans h.b17, h.r13.stays hb, h.r15.stays hb, h.r17.stays hb, h.g13, h.g15, h.g17⟩
/-- A box of the call's own, and what it holds, stay. -/
theorem box_take {w w2 : World} {gl g : Nat} {X : Obj} (hg : w.grownBy w2 (some gl)) (h : w.heap[g]? = some X) (hne : gl < g) : w2.heap[g]? = some X :=
  (hg.block g (Array.getElem?_eq_some_iff.1 h).1 (fun he => by cases he; omega)).trans h
theorem rd_take {w w2 : World} {gl : Nat} {c : VC} {x : V} (hg : w.grownBy w2 (some gl)) (h : RdI w (fun b => gl < b) c x) : RdI w2 (fun b => gl < b) c x :=
  h.kept (fun b hb hb' => hg.block b hb' (fun he => by cases he; omega)) hg.size
theorem fl_nod (v : V) : (flV v).length ≤ nodV v := by
  cases v with
  | mk h l f => have := nodF_len f; rw [nodV_mk]; show f.length ≤ _; omega
theorem BlkIn.lt' {w : World} {v : Value} {l : List St} {S : Nat → Prop} (h : BlkIn S v) (hr : Rd w v l) : BlkIn (fun b => S b ∧ b < w.heap.size) v := by
  intro g o p n cap hv hn
  refine ⟨h g o p n cap hv hn, ?_⟩
  obtain ⟨a, cap', rfl, h1, h2, h0, h3⟩ := hr
  simp only [Value.slice.injEq] at hv
  obtain ⟨rfl, rfl, rfl⟩ := hv
  obtain ⟨g', o', ha, hg, -⟩ := h3 (by intro hl; rw [hl] at hn; exact absurd hn (Nat.lt_irrefl _))
  simp only [Option.some.injEq, Addr.mk.injEq] at ha
  rw [ha.1]
  exact hg
theorem ST3.set {w w' w2 : World} {cv : VC} {cc c2 : CC} {pv : Value} {pl : List St} {gl : Nat} {n : Int} {g13 g15 g17 : Nat} {c13 c15 c17 : VC} {x13 x15 x17 : V} (h : ST3 w w' cv cc pv pl gl n g13 g15 g17 c13 c15 c17 x13 x15 x17) (hW : w'.setRow (w.heap.size + 1 + 1) (CC.cells c2).toArray = w2) : ST3 w w2 cv c2 pv pl gl n g13 g15 g17 c13 c15 c17 x13 x15 x17 := by
  obtain ⟨h1, h2, h3⟩ := h.t.rw.set hW
  have hg := h.t.g
  have a := h.g13
  have b := h.g15
  have c := h.g17
  exact ⟨⟨h1, h.t.rp.kept h.t.bp (fun b hb _ => h2 b (by omega)) (by omega), h.t.bp, (h2 _ (by omega)).trans h.t.l, hg⟩, (h2 _ (by omega)).trans h.b13, (h2 _ (by omega)).trans h.b15, (h2 _ (by omega)).trans h.b17, h.r13.kept (fun b hb _ => h2 b (by omega)) (by omega), h.r15.kept (fun b hb _ => h2 b (by omega)) (by omega), h.r17.kept (fun b hb _ => h2 b (by omega)) (by omega), a, b, c⟩
theorem fieldF_small (key : ByteArray) : ∀ (f : List (ByteArray × V)), nodV ((fieldF key f).getD v0) ≤ 1 + nodF f ∧ depV ((fieldF key f).getD v0) ≤ 1 + depF f
  | [] => by
    have h1 : nodV v0 = 1 := by rw [v0, nodV_mk, nodL, nodF]
    have h2 : depV v0 = 1 := by rw [v0, depV_mk, depL, depF]; rfl
    show nodV v0 ≤ _ ∧ depV v0 ≤ _
    omega
  | (k, x) :: t => by
    have ih := fieldF_small key t
    rw [fieldF, nodF, depF]
    split
    · simp only [Option.getD_some]
      omega
    · omega
theorem fd_small (key : ByteArray) (v : V) (hn : nodV v ≤ 1000000) (hd : depV v ≤ 65536) : nodV ((fieldF key (flV v)).getD v0) ≤ 1000000 ∧ depV ((fieldF key (flV v)).getD v0) ≤ 65536 := by
  cases v with
  | mk h l f =>
    have := fieldF_small key f
    rw [nodV_mk] at hn
    rw [depV_mk] at hd
    show nodV ((fieldF key f).getD v0) ≤ _ ∧ depV ((fieldF key f).getD v0) ≤ _
    omega
theorem numV_bd (v : V) : -1 ≤ numV v ∧ numV v ≤ 65536 := by
  unfold numV numI
  split
  · unfold numD
    split
    · rename_i h
      split at h
      · rename_i hh
        cases h
        have := hh.2.2.2
        omega
      · cases h
    · omega
  · omega
theorem PRead1_any (v : V) (c : VC) (w : World) (hn : nodV v ≤ 1000000) (hd : depV v ≤ 60000) (hv : RdV w c v) (he : Env w)
    (hat : ∀ x, fieldF kAt (flV v) = some x → decB (hdV x).neg (L (hdV x).ds) (hdV x).exp = true ∧ (hdV x).ds.size ≤ 120 ∧ (hdV x).exp ≤ 400 ∧ -400 ≤ (hdV x).exp) :
    Calls Tryz.prog 29 #[aggV c] w (ReadPost w (readC v)) := by
  have hkc : c.h = hdV v := by cases hv; rfl
  have hfl : c.f = c.f := rfl
  have HONEv := Lib.hid (vc_one hv)
  have HV := Lib.hid hv
  have HE := Lib.hid he
  have HAT := Lib.hid hat
  obtain ⟨r, hr⟩ : ∃ r, r = readC v := ⟨_, rfl⟩
  rw [← hr]
  unfold readC at hr
  rw [← hkc] at hr
  have HR := Lib.hid hr
  have HL3 := Lib.hid (fl_len hv)
  obtain ⟨h0, q1, q2, q3, n1, n2, n3, m1, m2, m3, hcf⟩ := hv.forms
  clear hv he hat hr hkc hfl
  subst hcf
  dsimp only at HR
  obtain ⟨a0, a1, a2, a3, a4, a5, a6, a7, a8, a9, a10⟩ := h0
  dsimp only at HR
  go_enter Tryz.func29, Tryz.ntmps29
  go_upto_region 2 with fail
  generalize hW1 : World.alloc w _ = w1
  obtain ⟨ha1, -, hz1, hb1⟩ := alloc_of hW1
  generalize hW2 : World.alloc w1 _ = w2
  obtain ⟨ha2, -, hz2, hb2⟩ := alloc_of hW2
  generalize hW3 : World.alloc w2 _ = w3
  obtain ⟨ha3, -, hz3, hb3⟩ := alloc_of hW3
  have hrw : RW w w3 ⟨⟨a0, a1, a2, a3, a4, a5, a6, a7, a8, a9, a10⟩, .slice q1 n1 m1, .slice q2 n2 m2, .slice q3 n3 m3⟩ c00 :=
    ⟨(hb1.trans (hb2.mono (by omega))).trans (hb3.mono (by omega)), (hb3.block _ (by omega)).trans ((hb2.block _ (by omega)).trans ha1), (hb3.block _ (by omega)).trans (by rw [← hz1]; exact ha2), by rw [show w.heap.size + 1 + 1 = w2.heap.size by omega]; exact ha3, by omega⟩
  have HRW := Lib.hid hrw
  clear hW1 hW2 hW3 ha1 ha2 ha3 hb1 hb2 hb3 hz1 hz2 hz3
  obtain ⟨⟨x0, -, -, -, -, -, -, -, -, -, -, -, -⟩, -⟩ := box13 HRW.out.x1
  by_cases hk7 : a0 = 7
  case neg =>
    have HF : Hid (r = (ch0, 6)) := by unfold Hid; rw [HR.out, if_pos hk7]
    have hq : (a0 != 7) = true := by rw [bne_iff_ne]; exact hk7
    have HONEcc : Hid (∀ u ∈ c00.cells, u.oneCell' = true) := one_cc one_c0 one_c0 rfl
    clear HR hk7 HAT HV HE HONEv
    have HC29 : Hid (∀ j, j < 29 → w3.cell? ⟨w.heap.size + 1 + 1, 0 + j, none⟩ = (CC.cells c00)[j]?) := (rowC5 HRW.out.x4).2.2.2.1
    have HX2 := Lib.hid HRW.out.x2
    have HBW := Lib.hid HRW.out.b
    go_wp2_with (first
      | refine wpl_load rfl rfl stC rfl (ccells_len _) HC29.out ?_
      | (refine wpl_store rfl rfl stC.2 rfl rfl (cs := CC.cells c00) rfl (ccells_len _) HONEcc.out HX2.out (Nat.le_refl 29) (row := CC.cells c00) (by rw [List.take_zero, List.nil_append, List.drop_of_length_le (by decide), List.append_nil]) ?_; generalize hW9 : World.setRow _ _ _ = w9; obtain ⟨hd9, hk9, hz9, hb9⟩ := setRow_of hW9 HX2.out; clear hW9))
    refine bodyPost_ret (results_two rfl _ _ (w.heap.size + 1) _ _ _ _ _ rfl rfl hd9 Tryz.underlying54 rfl (by kernel_rfl)) rfl ⟨_, by rw [HF.out]; rfl, HONEcc.out, (fun h => by rw [HF.out] at h; exact absurd h (by decide)), HBW.out.trans (hb9 _ (by omega))⟩
  subst hk7
  have HFD := Lib.hid (fun key w' (hb : Below w.heap.size w w') => VField_any key v _ w' hn (by omega) (HV.out.stays hb) rfl)
  have HKIND : Hid ((if (7 : Int) ≠ 7 then (ch0, 6) else if opF (flV v) = 0 then (ch0, 3) else match pathF (flV v) with
    | none => (ch0, 3)
    | some t => if (parseL (L t)).2 ≠ 0 then (ch0, (parseL (L t)).2)
      else if fitF (flV v) (opF (flV v)) (parseL (L t)).1 = false then (ch0, 3)
      else if movB (opF (flV v)) = true ∧ (parseL (L t)).1 = [] then (ch0, 1)
      else (changeOf (flV v) (opF (flV v)) (parseL (L t)).1, 0)) = r) := HR.out.symm
  clear HR
  have HR : Hid (r = if opF (flV v) = 0 then (ch0, 3) else match pathF (flV v) with
    | none => (ch0, 3)
    | some t => if (parseL (L t)).2 ≠ 0 then (ch0, (parseL (L t)).2)
      else if fitF (flV v) (opF (flV v)) (parseL (L t)).1 = false then (ch0, 3)
      else if movB (opF (flV v)) = true ∧ (parseL (L t)).1 = [] then (ch0, 1)
      else (changeOf (flV v) (opF (flV v)) (parseL (L t)).1, 0)) := by unfold Hid; rw [← HKIND.out, if_neg (by decide)]
  clear HKIND
  have HC13 : Hid (∀ w', RW w w' ⟨⟨7, a1, a2, a3, a4, a5, a6, a7, a8, a9, a10⟩, .slice q1 n1 m1, .slice q2 n2 m2, .slice q3 n3 m3⟩ c00 → ∀ j, j < 13 → w'.cell? ⟨w.heap.size, 0 + j, none⟩ = (VC.cells ⟨⟨7, a1, a2, a3, a4, a5, a6, a7, a8, a9, a10⟩, .slice q1 n1 m1, .slice q2 n2 m2, .slice q3 n3 m3⟩)[j]?) := fun w' h => rowV h.x1
  go_upto_region 4 with fail
  clear x0
  have HC3 := Lib.hid (HC13.out _ HRW.out)
  go_wp2_with (refine wpl_load rfl rfl stVk rfl (cells_len _) HC3.out ?_)
  refine (HFD.out kOp _ HRW.out.b).mono ?_
  rintro e w4 ⟨c5, rfl, hr5, hb4⟩
  have HR5 : Hid (c5.h = hdV ((fieldF kOp (flV v)).getD v0)) := rd_head hr5
  have HONE5 := Lib.hid (vc_one hr5.any)
  have HRW4 := Lib.hid (HRW.out.below hb4)
  clear hr5 hb4 HRW HC3
  go_upto_region 5 with (refine wpl_new rfl rfl stVk rfl (cs := VC.cells c5) rfl (cells_len _) HONE5.out rfl rfl rfl ?_; generalize hW1 : World.alloc w4 _ = w5; obtain ⟨ha5, -, hz5, hb5⟩ := alloc_of' hW1; have HA5 := Lib.hid ha5; have HRW5 := Lib.hid (HRW4.out.below hb5); have HZ5 := Lib.hid hz5; clear hW1 ha5 hb5 hz5)
  have HG5 : Hid (w.heap.size + 3 ≤ w4.heap.size) := HRW4.out.z
  generalize w4.heap.size = g5 at *
  clear HRW4
  have HC5 := Lib.hid (HC13.out _ HRW5.out)
  go_wp2_with (refine wpl_load rfl rfl stVk rfl (cells_len _) HC5.out ?_)
  refine (HFD.out kPath _ HRW5.out.b).mono ?_
  rintro e w6 ⟨c7, rfl, hr7, hb6⟩
  have HR7 : Hid (c7.h = hdV ((fieldF kPath (flV v)).getD v0)) := rd_head hr7
  have HOK7 := Lib.hid hr7
  have HONE7 := Lib.hid (vc_one hr7.any)
  have HRW6 := Lib.hid (HRW5.out.below hb6)
  have HA6 := Lib.hid ((hb6.block g5 (by rw [HZ5.out]; omega)).trans HA5.out)
  have HZ6 : Hid (g5 < w6.heap.size) := by unfold Hid; have := hb6.size; have := HZ5.out; omega
  clear hr7 hb6 HC5 HRW5 HA5 HZ5
  go_upto_region 6 with (refine wpl_new rfl rfl stVk rfl (cs := VC.cells c7) rfl (cells_len _) HONE7.out rfl rfl rfl ?_; generalize hW1 : World.alloc w6 _ = w7; obtain ⟨ha7, -, hz7, hb7⟩ := alloc_of' hW1; have HB7 := Lib.hid ha7; have HRW7 := Lib.hid (HRW6.out.below hb7); have HA7 := Lib.hid ((hb7.block g5 HZ6.out).trans HA6.out); have HZ7 := Lib.hid hz7; clear hW1 ha7 hb7 hz7)
  have HG7 : Hid (g5 < w6.heap.size) := HZ6.out
  generalize w6.heap.size = g7 at *
  clear HRW6 HA6 HZ6
  obtain ⟨on, hon⟩ : ∃ on : Nat → Int, on = fun j => if c5.h.kind = 4 then opS c5.h.text j else 0 := ⟨_, rfl⟩
  have HON := Lib.hid hon
  have HO0 : Hid (on 0 = 0) := by unfold Hid; rw [hon]; simp [opS]
  have HBD : Hid (∀ j, 0 ≤ on j ∧ on j ≤ j) := by
    intro j
    rw [hon]
    dsimp only
    split
    · exact opS_bd _ j
    · omega
  clear hon
  go_wp2_with fail
  have HRW7' : Hid (RW w w7 ⟨⟨7, a1, a2, a3, a4, a5, a6, a7, a8, a9, a10⟩, .slice q1 n1 m1, .slice q2 n2 m2, .slice q3 n3 m3⟩ ⟨on 0, .slice none 0 0, 0, c0F, c0F⟩) := by rw [HO0.out]; exact HRW7
  clear HRW7
  go_loopw [9] (fun iv wr => ∃ j : Nat, j ≤ 4 ∧ iv = .int .i64 ((j : Int) + 1) ∧ Hid (RW w wr ⟨⟨7, a1, a2, a3, a4, a5, a6, a7, a8, a9, a10⟩, .slice q1 n1 m1, .slice q2 n2 m2, .slice q3 n3 m3⟩ ⟨on j, .slice none 0 0, 0, c0F, c0F⟩) ∧ Hid (wr.heap[g5]? = some (.cells (VC.cells c5).toArray 30 (0, 0))) ∧ Hid (wr.heap[g7]? = some (.cells (VC.cells c7).toArray 30 (0, 0)))) (fun iv _ => (6 - intOf iv).toNat)
  case atStart => exact ⟨0, by omega, rfl, HRW7'.out, HA7.out, HB7.out⟩
  case round =>
    clear HRW7' HA7 HB7
    obtain ⟨j, hj, rfl, HRW, HA, HB⟩ := hrel
    by_cases hlt : j < 4
    case neg =>
      obtain rfl : j = 4 := by omega
      have HOP : Hid (on 4 = opF (flV v)) := by
        unfold Hid
        rw [HON.out]
        unfold opF
        simp only [HR5.out]
        cases fieldF kOp (flV v) with
        | none => rfl
        | some x => rfl
      have HPT : Hid (pathF (flV v) = if c7.h.kind = 4 then some c7.h.text else none) := by
        unfold Hid pathF
        rw [HR7.out]
        cases fieldF kPath (flV v) with
        | none => rfl
        | some x => rfl
      have hob := HBD.out 4
      rw [← HOP.out, HPT.out] at HR
      generalize on 4 = op at *
      clear HON HO0 HBD HPT HR5 HR7 HONE5 HA HC13
      obtain ⟨y0, -⟩ := rowC5 HRW.out.x4
      by_cases hop : op = 0
      case pos =>
        have HF : Hid (r = (ch0, 3)) := by unfold Hid; rw [HR.out, if_pos hop]
        have hq : (op == 0) = true := by rw [beq_iff_eq]; exact hop
        have HONEcc : Hid (∀ u ∈ CC.cells ⟨op, .slice none 0 0, 0, c0F, c0F⟩, u.oneCell' = true) := one_cc one_c0 one_c0 rfl
        clear HR hop hob
        have HC29 : Hid (∀ j, j < 29 → wr.cell? ⟨w.heap.size + 1 + 1, 0 + j, none⟩ = (CC.cells ⟨op, .slice none 0 0, 0, c0F, c0F⟩)[j]?) := (rowC5 HRW.out.x4).2.2.2.1
        have HX2 := Lib.hid HRW.out.x2
        have HBW := Lib.hid HRW.out.b
        go_wp2_with (first
          | refine wpl_load rfl rfl stC rfl (ccells_len _) HC29.out ?_
          | (refine wpl_store rfl rfl stC.2 rfl rfl (cs := CC.cells ⟨op, .slice none 0 0, 0, c0F, c0F⟩) rfl (ccells_len _) HONEcc.out HX2.out (Nat.le_refl 29) (row := CC.cells ⟨op, .slice none 0 0, 0, c0F, c0F⟩) (by rw [List.take_zero, List.nil_append, List.drop_of_length_le (Nat.le_refl 29), List.append_nil]) ?_; generalize hW9 : World.setRow _ _ _ = w9; obtain ⟨hd9, hk9, hz9, hb9⟩ := setRow_of hW9 HX2.out; clear hW9))
        refine bodyPost_ret (results_two rfl _ _ (w.heap.size + 1) _ _ _ _ _ rfl rfl hd9 Tryz.underlying54 rfl (by kernel_rfl)) rfl ⟨_, by rw [HF.out]; rfl, HONEcc.out, (fun h => by rw [HF.out] at h; exact absurd h (by decide)), HBW.out.trans (hb9 _ (by omega))⟩
      have hq : (op == 0) = false := by rw [beq_eq_false_iff_ne]; exact hop
      have HR2 : Hid (r = match (if c7.h.kind = 4 then some c7.h.text else none) with
        | none => (ch0, 3)
        | some t => if (parseL (L t)).2 ≠ 0 then (ch0, (parseL (L t)).2)
          else if fitF (flV v) op (parseL (L t)).1 = false then (ch0, 3)
          else if movB op = true ∧ (parseL (L t)).1 = [] then (ch0, 1)
          else (changeOf (flV v) op (parseL (L t)).1, 0)) := by unfold Hid; rw [HR.out, if_neg hop]
      clear HR
      have p0 : wr.cell? ⟨g7, 0, none⟩ = some (.int .i64 c7.h.kind) := cell_of_row _ _ _ _ _ _ HB.out
      by_cases h4 : c7.h.kind = 4
      case neg =>
        have HF : Hid (r = (ch0, 3)) := by unfold Hid; rw [HR2.out, if_neg h4]
        have hq4 : (c7.h.kind != 4) = true := by rw [bne_iff_ne]; exact h4
        have HONEcc : Hid (∀ u ∈ CC.cells ⟨op, .slice none 0 0, 0, c0F, c0F⟩, u.oneCell' = true) := one_cc one_c0 one_c0 rfl
        clear HR2 hop hob h4
        have HC29 : Hid (∀ j, j < 29 → wr.cell? ⟨w.heap.size + 1 + 1, 0 + j, none⟩ = (CC.cells ⟨op, .slice none 0 0, 0, c0F, c0F⟩)[j]?) := (rowC5 HRW.out.x4).2.2.2.1
        have HX2 := Lib.hid HRW.out.x2
        have HBW := Lib.hid HRW.out.b
        go_wp2_with (first
          | refine wpl_load rfl rfl stC rfl (ccells_len _) HC29.out ?_
          | (refine wpl_store rfl rfl stC.2 rfl rfl (cs := CC.cells ⟨op, .slice none 0 0, 0, c0F, c0F⟩) rfl (ccells_len _) HONEcc.out HX2.out (Nat.le_refl 29) (row := CC.cells ⟨op, .slice none 0 0, 0, c0F, c0F⟩) (by rw [List.take_zero, List.nil_append, List.drop_of_length_le (Nat.le_refl 29), List.append_nil]) ?_; generalize hW9 : World.setRow _ _ _ = w9; obtain ⟨hd9, hk9, hz9, hb9⟩ := setRow_of hW9 HX2.out; clear hW9))
        refine bodyPost_ret (results_two rfl _ _ (w.heap.size + 1) _ _ _ _ _ rfl rfl hd9 Tryz.underlying54 rfl (by kernel_rfl)) rfl ⟨_, by rw [HF.out]; rfl, HONEcc.out, (fun h => by rw [HF.out] at h; exact absurd h (by decide)), HBW.out.trans (hb9 _ (by omega))⟩
      have hq4 : (c7.h.kind != 4) = false := by rw [bne_eq_false_iff_eq]; exact h4
      have HR : Hid (r = if (parseL (L c7.h.text)).2 ≠ 0 then (ch0, (parseL (L c7.h.text)).2)
          else if fitF (flV v) op (parseL (L c7.h.text)).1 = false then (ch0, 3)
          else if movB op = true ∧ (parseL (L c7.h.text)).1 = [] then (ch0, 1)
          else (changeOf (flV v) op (parseL (L c7.h.text)).1, 0)) := by unfold Hid; rw [HR2.out, if_pos h4]
      have p9 : wr.cell? ⟨g7, 9, none⟩ = some (.string c7.h.text) := cell_of_row _ _ _ _ _ _ HB.out
      have HTX : Hid (c7.h.text.size ≤ 1000000000) := (rd_ok HOK7.out).text
      have HPS := Lib.hid (parse_sound (L c7.h.text))
      clear HR2 h4 HOK7 HONE7
      generalize c7.h.text = tx at *
      go_upto_region 14 with fail
      go_wp2_with fail
      refine (Parse_any tx _ HTX.out (HE.out.below HRW.out.b)).mono ?_
      rintro e w8 ⟨pv, rfl, hown8, hb8⟩
      have HRW8 := Lib.hid (HRW.out.below hb8)
      have HRDP := Lib.hid (Rd.of_own hown8)
      have HBK := Lib.hid (BlkIn.of_own hown8)
      have HOWN := Lib.hid hown8
      have HZ8 := Lib.hid HRW.out.z
      clear hown8 hb8 HRW y0 p0 p9 HB
      obtain ⟨pa, pcap, rfl⟩ := own_formS HOWN.out
      generalize parseL (L tx) = px at *
      obtain ⟨pl, pn⟩ := px
      dsimp only at HR HPS HRDP HBK HOWN ⊢
      go_upto_region 15 with (refine wpl_store rfl rfl stP rfl rfl (cs := [.slice pa pl.length pcap]) rfl rfl (by intro u hu; rw [List.mem_singleton.1 hu]; rfl) HRW8.out.x4 (by rw [ccells_len]; decide) (row := CC.cells ⟨op, .slice pa pl.length pcap, 0, c0F, c0F⟩) rfl ?_; generalize hW4 : World.setRow _ _ _ = w9; obtain ⟨h91, h92, h93⟩ := RW.set HRW8.out hW4; clear hW4)
      have HRW := Lib.hid h91
      have HRD9 : Hid (Rd w9 (.slice pa pl.length pcap) pl) := HRDP.out.kept HBK.out (fun b hb _ => h92 b (by have := HZ8.out; omega)) (by omega)
      have HBK9 : Hid (BlkIn (fun b => w.heap.size + 3 ≤ b) (.slice pa pl.length pcap)) := HBK.out.mono fun b hb => by have := HZ8.out; omega
      clear h91 h92 h93 HRW8 HRDP HBK HOWN HZ8
      by_cases hpn : pn = 0
      case neg =>
        have HF : Hid (r = (ch0, pn)) := by unfold Hid; rw [HR.out, if_pos hpn]
        have hqe : ((pn : Int) != 0) = true := by rw [bne_iff_ne]; omega
        have HPN := Lib.hid hpn
        have HONEcc : Hid (∀ u ∈ CC.cells ⟨op, .slice pa pl.length pcap, 0, c0F, c0F⟩, u.oneCell' = true) := one_cc one_c0 one_c0 rfl
        clear HR hpn
        have HC29 : Hid (∀ j, j < 29 → w9.cell? ⟨w.heap.size + 1 + 1, 0 + j, none⟩ = (CC.cells ⟨op, .slice pa pl.length pcap, 0, c0F, c0F⟩)[j]?) := (rowC5 HRW.out.x4).2.2.2.1
        have HX2 := Lib.hid HRW.out.x2
        have HBW := Lib.hid HRW.out.b
        go_wp2_with (first
          | refine wpl_load rfl rfl stC rfl (ccells_len _) HC29.out ?_
          | (refine wpl_store rfl rfl stC.2 rfl rfl (cs := CC.cells ⟨op, .slice pa pl.length pcap, 0, c0F, c0F⟩) rfl (ccells_len _) HONEcc.out HX2.out (Nat.le_refl 29) (row := CC.cells ⟨op, .slice pa pl.length pcap, 0, c0F, c0F⟩) (by rw [List.take_zero, List.nil_append, List.drop_of_length_le (Nat.le_refl 29), List.append_nil]) ?_; generalize hW9 : World.setRow _ _ _ = w9; obtain ⟨hd9, hk9, hz9, hb9⟩ := setRow_of hW9 HX2.out; clear hW9))
        refine bodyPost_ret (results_two rfl _ _ (w.heap.size + 1) _ _ _ _ _ rfl rfl hd9 Tryz.underlying54 rfl (by kernel_rfl)) rfl ⟨_, by rw [HF.out]; rfl, HONEcc.out, (fun h => by rw [HF.out] at h; exact absurd h HPN.out), HBW.out.trans (hb9 _ (by omega))⟩
      subst hpn
      obtain ⟨hva, -⟩ := HPS.out rfl
      have HVA := Lib.hid hva
      replace HR : Hid (r = if fitF (flV v) op pl = false then (ch0, 3) else if movB op = true ∧ pl = [] then (ch0, 1) else (changeOf (flV v) op pl, 0)) := by unfold Hid; rw [HR.out, if_neg (by decide)]
      clear hva HPS
      obtain ⟨fa, fm, hfe, hfl⟩ := HL3.out
      simp only [Value.slice.injEq] at hfe
      obtain ⟨rfl, rfl, rfl⟩ := hfe
      obtain ⟨⟨-, -, -, -, -, -, -, -, -, -, -, -, x12⟩, -⟩ := box13 HRW.out.x1
      clear HL3
      go_upto_region 19 with fail
      generalize hW0 : World.alloc w9 _ = w10
      obtain ⟨ha0, -, hz0, hb0⟩ := alloc_of hW0
      have hrt : RT w w10 ⟨⟨7, a1, a2, a3, a4, a5, a6, a7, a8, a9, a10⟩, .slice q1 n1 m1, .slice q2 n2 m2, .slice q3 (flV v).length m3⟩ ⟨op, .slice pa pl.length pcap, 0, c0F, c0F⟩ (.slice pa pl.length pcap) pl w9.heap.size ((flV v).length - 2) :=
        ⟨HRW.out.below hb0, HRD9.out.below hb0, (HBK9.out.lt' HRD9.out).mono fun b hb => hb, ha0, HRW.out.z⟩
      have HT10 := Lib.hid hrt
      have HLN : Hid ((flV v).length ≤ 1000000) := by
        have := fl_nod v
        unfold Hid
        omega
      clear hW0 ha0 hz0 hb0 hrt HRD9 HBK9 HRW x12 hfl
      generalize w9.heap.size = gl at *
      generalize hnn : (((flV v).length : Nat) : Int) - 2 = nn at *
      have HNN := Lib.hid hnn
      have hn0 : -2 ≤ nn := by omega
      have hn1 : nn ≤ 1000000 := by have := HLN.out; omega
      clear hnn
      have HK29 : Hid (∀ j, j < 29 → w10.cell? ⟨w.heap.size + 1 + 1, 0 + j, none⟩ = (CC.cells ⟨op, .slice pa pl.length pcap, 0, c0F, c0F⟩)[j]?) := (rowC5 HT10.out.rw.x4).2.2.2.1
      go_wp2_with (refine wpl_load rfl rfl stC rfl (ccells_len _) HK29.out ?_)
      refine (keyed_any ⟨op, pl, 0, v0, v0⟩ ⟨op, .slice pa pl.length pcap, 0, c0F, c0F⟩ w10 (HT10.out.rdc hob)).mono ?_
      rintro e w11 ⟨rfl, hb⟩
      have HT10b := Lib.hid (HT10.out.below hb)
      clear hb HK29 HT10
      dsimp only
      go_wp2_with fail
      refine (take_any kAt (movB op && lastK pl) v ⟨⟨7, a1, a2, a3, a4, a5, a6, a7, a8, a9, a10⟩, .slice q1 n1 m1, .slice q2 n2 m2, .slice q3 (flV v).length m3⟩ w11 w.heap.size gl (nn) (by have h1 := b1_le (fieldF kAt (flV v)).isSome; have h2 := b1_le (fieldF kOld (flV v)).isSome; omega) (by omega) hn (by omega) HT10b.out.rw.x1 HT10b.out.l rfl (HV.out.stays HT10b.out.rw.b)).mono ?_
      rintro e w12 ⟨c13, rfl, hr, hg, hl⟩
      have HTw12 := Lib.hid (HT10b.out.take hg hl)
      have HONEc13 := Lib.hid (vc_one hr.any)
      have HRc13 : Hid (RdI w12 (fun b => gl < b) c13 ((fieldF kAt (flV v)).getD v0)) := hr.mono fun b hb => by have := (Array.getElem?_eq_some_iff.1 HT10b.out.l).1; omega
      have hzb := hg.size
      have hlb := (Array.getElem?_eq_some_iff.1 HT10b.out.l).1
      have HGL : Hid (gl < w12.heap.size) := by unfold Hid; omega
      clear hr hg hl hzb hlb HT10b 
      go_upto_region 20 with (refine wpl_new rfl rfl stVk rfl (cs := VC.cells c13) rfl (cells_len _) HONEc13.out rfl rfl rfl ?_; generalize hW1 : World.alloc w12 _ = w13; obtain ⟨ha3, -, hz3, hb3⟩ := alloc_of' hW1; have HBc13 := Lib.hid ha3; have HTw13 := Lib.hid (HTw12.out.below hb3); have HRnc13 := Lib.hid (HRc13.out.stays hb3);  clear hW1 ha3 hb3 hz3)
      have HGc13 : Hid (gl < w12.heap.size) := HGL.out
      clear HGL HTw12 HRc13 
      have HRc13 := HRnc13
      skip
      clear HRnc13 
      generalize w12.heap.size = g13 at *
      obtain ⟨y0, -⟩ := rowC5 HTw13.out.rw.x4
      go_wp2_with fail
      refine (hasOld_any _ _).mono ?_
      rintro e wx ⟨rfl, rfl⟩
      clear y0
      have HTw13b := HTw13
      have HRc13b := HRc13; have HBc13b := HBc13
      clear HTw13 HRc13 HBc13
      go_wp2_with fail
      refine (take_any kOld (oldB op) v ⟨⟨7, a1, a2, a3, a4, a5, a6, a7, a8, a9, a10⟩, .slice q1 n1 m1, .slice q2 n2 m2, .slice q3 (flV v).length m3⟩ w13 w.heap.size gl (nn - b1 (fieldF kAt (flV v)).isSome) (by have h1 := b1_le (fieldF kAt (flV v)).isSome; have h2 := b1_le (fieldF kOld (flV v)).isSome; omega) (by omega) hn (by omega) HTw13b.out.rw.x1 HTw13b.out.l rfl (HV.out.stays HTw13b.out.rw.b)).mono ?_
      rintro e w15 ⟨c15, rfl, hr, hg, hl⟩
      have HTw15 := Lib.hid (HTw13b.out.take hg hl)
      have HONEc15 := Lib.hid (vc_one hr.any)
      have HRc15 : Hid (RdI w15 (fun b => gl < b) c15 ((fieldF kOld (flV v)).getD v0)) := hr.mono fun b hb => by have := (Array.getElem?_eq_some_iff.1 HTw13b.out.l).1; omega
      have hzb := hg.size
      have hlb := (Array.getElem?_eq_some_iff.1 HTw13b.out.l).1
      have HGL : Hid (gl < w15.heap.size) := by unfold Hid; omega
      replace HRc13 := Lib.hid (rd_take hg HRc13b.out)
      replace HBc13 := Lib.hid (box_take hg HBc13b.out HGc13.out)
      clear hr hg hl hzb hlb HTw13b HRc13b HBc13b
      go_upto_region 21 with (refine wpl_new rfl rfl stVk rfl (cs := VC.cells c15) rfl (cells_len _) HONEc15.out rfl rfl rfl ?_; generalize hW1 : World.alloc w15 _ = w16; obtain ⟨ha3, -, hz3, hb3⟩ := alloc_of' hW1; have HBc15 := Lib.hid ha3; have HTw16 := Lib.hid (HTw15.out.below hb3); have HRnc15 := Lib.hid (HRc15.out.stays hb3); have HRnc13 := Lib.hid (HRc13.out.stays hb3); have HBnc13 := Lib.hid ((hb3.block _ (Array.getElem?_eq_some_iff.1 HBc13.out).1).trans HBc13.out); clear hW1 ha3 hb3 hz3)
      have HGc15 : Hid (gl < w15.heap.size) := HGL.out
      clear HGL HTw15 HRc15 HRc13 HBc13
      have HRc15 := HRnc15
      have HRc13 := HRnc13; have HBc13 := HBnc13
      clear HRnc15 HRnc13 HBnc13
      generalize w15.heap.size = g15 at *
      obtain ⟨y0, -⟩ := rowC5 HTw16.out.rw.x4
      go_wp2_with fail
      refine (hasNew_any _ _).mono ?_
      rintro e wx ⟨rfl, rfl⟩
      clear y0
      have HTw16b := HTw16
      have HRc13b := HRc13; have HBc13b := HBc13; have HRc15b := HRc15; have HBc15b := HBc15
      clear HTw16 HRc13 HBc13 HRc15 HBc15
      go_wp2_with fail
      refine (take_any kNew (newB op) v ⟨⟨7, a1, a2, a3, a4, a5, a6, a7, a8, a9, a10⟩, .slice q1 n1 m1, .slice q2 n2 m2, .slice q3 (flV v).length m3⟩ w16 w.heap.size gl (nn - b1 (fieldF kAt (flV v)).isSome - b1 (fieldF kOld (flV v)).isSome) (by have h1 := b1_le (fieldF kAt (flV v)).isSome; have h2 := b1_le (fieldF kOld (flV v)).isSome; omega) (by omega) hn (by omega) HTw16b.out.rw.x1 HTw16b.out.l rfl (HV.out.stays HTw16b.out.rw.b)).mono ?_
      rintro e w18 ⟨c17, rfl, hr, hg, hl⟩
      have HTw18 := Lib.hid (HTw16b.out.take hg hl)
      have HONEc17 := Lib.hid (vc_one hr.any)
      have HRc17 : Hid (RdI w18 (fun b => gl < b) c17 ((fieldF kNew (flV v)).getD v0)) := hr.mono fun b hb => by have := (Array.getElem?_eq_some_iff.1 HTw16b.out.l).1; omega
      have hzb := hg.size
      have hlb := (Array.getElem?_eq_some_iff.1 HTw16b.out.l).1
      have HGL : Hid (gl < w18.heap.size) := by unfold Hid; omega
      replace HRc13 := Lib.hid (rd_take hg HRc13b.out)
      replace HBc13 := Lib.hid (box_take hg HBc13b.out HGc13.out)
      replace HRc15 := Lib.hid (rd_take hg HRc15b.out)
      replace HBc15 := Lib.hid (box_take hg HBc15b.out HGc15.out)
      clear hr hg hl hzb hlb HTw16b HRc13b HBc13b HRc15b HBc15b
      go_upto_region 22 with (refine wpl_new rfl rfl stVk rfl (cs := VC.cells c17) rfl (cells_len _) HONEc17.out rfl rfl rfl ?_; generalize hW1 : World.alloc w18 _ = w19; obtain ⟨ha3, -, hz3, hb3⟩ := alloc_of' hW1; have HBc17 := Lib.hid ha3; have HTw19 := Lib.hid (HTw18.out.below hb3); have HRnc17 := Lib.hid (HRc17.out.stays hb3); have HRnc13 := Lib.hid (HRc13.out.stays hb3); have HBnc13 := Lib.hid ((hb3.block _ (Array.getElem?_eq_some_iff.1 HBc13.out).1).trans HBc13.out); have HRnc15 := Lib.hid (HRc15.out.stays hb3); have HBnc15 := Lib.hid ((hb3.block _ (Array.getElem?_eq_some_iff.1 HBc15.out).1).trans HBc15.out); clear hW1 ha3 hb3 hz3)
      have HGc17 : Hid (gl < w18.heap.size) := HGL.out
      clear HGL HTw18 HRc17 HRc13 HBc13 HRc15 HBc15
      have HRc17 := HRnc17
      have HRc13 := HRnc13; have HBc13 := HBnc13; have HRc15 := HRnc15; have HBc15 := HBnc15
      clear HRnc17 HRnc13 HBnc13 HRnc15 HBnc15
      generalize w18.heap.size = g17 at *
      have HST : Hid (ST3 w w19 ⟨⟨7, a1, a2, a3, a4, a5, a6, a7, a8, a9, a10⟩, .slice q1 n1 m1, .slice q2 n2 m2, .slice q3 (flV v).length m3⟩ ⟨op, .slice pa pl.length pcap, 0, c0F, c0F⟩ (.slice pa pl.length pcap) pl gl (nn - b1 (fieldF kAt (flV v)).isSome - b1 (fieldF kOld (flV v)).isSome - b1 (fieldF kNew (flV v)).isSome) g13 g15 g17 c13 c15 c17 ((fieldF kAt (flV v)).getD v0) ((fieldF kOld (flV v)).getD v0) ((fieldF kNew (flV v)).getD v0)) := ⟨HTw19.out, HBc13.out, HBc15.out, HBc17.out, HRc13.out, HRc15.out, HRc17.out, HGc13.out, HGc15.out, HGc17.out⟩
      clear HTw19 HBc13 HBc15 HBc17 HRc13 HRc15 HRc17 HGc13 HGc15 HGc17
      have HFIT : Hid (fitF (flV v) op pl = (((fieldF kAt (flV v)).isSome == (movB op && lastK pl)) && (((fieldF kOld (flV v)).isSome == oldB op) && (((fieldF kNew (flV v)).isSome == newB op) && (decide (nn - b1 (fieldF kAt (flV v)).isSome - b1 (fieldF kOld (flV v)).isSome - b1 (fieldF kNew (flV v)).isSome = 0) && !((movB op && lastK pl) && decide (numV ((fieldF kAt (flV v)).getD v0) < 0))))))) := by
        have e : ∀ a b : Bool, decide (a = b) = (a == b) := fun a b => by cases a <;> cases b <;> rfl
        have e2 : decide ((flV v).length = 2 + b1 (fieldF kAt (flV v)).isSome + b1 (fieldF kOld (flV v)).isSome + b1 (fieldF kNew (flV v)).isSome) = decide (nn - b1 (fieldF kAt (flV v)).isSome - b1 (fieldF kOld (flV v)).isSome - b1 (fieldF kNew (flV v)).isSome = 0) := by
          have := HNN.out
          rw [decide_eq_decide]
          omega
        unfold Hid fitF
        rw [e, e, e, e2]
      go_upto_region 22 with fail
      generalize hn3 : nn - b1 (fieldF kAt (flV v)).isSome - b1 (fieldF kOld (flV v)).isSome - b1 (fieldF kNew (flV v)).isSome = n3 at *
      clear hn3
      have HD13 : Hid (decB c13.h.neg (L c13.h.ds) c13.h.exp = true ∧ c13.h.ds.size ≤ 120 ∧ c13.h.exp ≤ 400 ∧ -400 ≤ c13.h.exp) := by
        have hh := rd_head HST.out.r13
        unfold Hid
        rw [hh]
        cases ho : fieldF kAt (flV v) with
        | none => exact ⟨rfl, by decide, by decide, by decide⟩
        | some x => exact HAT.out x ho
      have HNV : Hid (numI c13.h.kind (numD c13.h.neg (L c13.h.ds) c13.h.exp) = numV ((fieldF kAt (flV v)).getD v0)) := by
        have hh := rd_head HST.out.r13
        unfold Hid numV
        rw [hh]
      go_cut [119] (fun q wx => q = .bool (!fitF (flV v) op pl) ∧ ST3 w wx ⟨⟨7, a1, a2, a3, a4, a5, a6, a7, a8, a9, a10⟩, .slice q1 n1 m1, .slice q2 n2 m2, .slice q3 (flV v).length m3⟩ ⟨op, .slice pa pl.length pcap, 0, c0F, c0F⟩ (.slice pa pl.length pcap) pl gl n3 g13 g15 g17 c13 c15 c17 ((fieldF kAt (flV v)).getD v0) ((fieldF kOld (flV v)).getD v0) ((fieldF kNew (flV v)).getD v0))
      case first =>
        clear HR HAT HFD
        generalize fitF (flV v) op pl = ft at *
        generalize ((fieldF kAt (flV v)).isSome == (movB op && lastK pl)) = ba at *
        generalize ((fieldF kOld (flV v)).isSome == oldB op) = bo at *
        generalize ((fieldF kNew (flV v)).isSome == newB op) = bn at *
        generalize numV ((fieldF kAt (flV v)).getD v0) = nv at *
        cases ba with
        | false =>
          go_wp2_with fail
          go_meet
          exact ⟨by rw [HFIT.out]; rfl, HST.out⟩
        | true =>
        cases bo with
        | false =>
          go_wp2_with fail
          go_meet
          exact ⟨by rw [HFIT.out]; rfl, HST.out⟩
        | true =>
        cases bn with
        | false =>
          go_wp2_with fail
          go_meet
          exact ⟨by rw [HFIT.out]; rfl, HST.out⟩
        | true =>
        have l0 : w19.cell? ⟨gl, 0, none⟩ = some (.int .i64 n3) := cell_of_row _ _ _ _ _ _ HST.out.t.l
        by_cases hz : n3 = 0
        case neg =>
          have hq : (n3 != 0) = true := by rw [bne_iff_ne]; exact hz
          have HF : Hid (ft = false) := by unfold Hid; rw [HFIT.out, decide_eq_false hz]; rfl
          clear hz HFIT
          go_wp2_with fail
          go_meet
          exact ⟨by rw [HF.out]; rfl, HST.out⟩
        have hq : (n3 != 0) = false := by rw [bne_eq_false_iff_eq]; exact hz
        have HFT : Hid (ft = !((movB op && lastK pl) && decide (nv < 0))) := by unfold Hid; rw [HFIT.out, decide_eq_true hz]; simp
        have HK29 : Hid (∀ j, j < 29 → w19.cell? ⟨w.heap.size + 1 + 1, 0 + j, none⟩ = (CC.cells ⟨op, .slice pa pl.length pcap, 0, c0F, c0F⟩)[j]?) := (rowC5 HST.out.t.rw.x4).2.2.2.1
        have HKY := Lib.hid (keyed_any ⟨op, pl, 0, v0, v0⟩ ⟨op, .slice pa pl.length pcap, 0, c0F, c0F⟩ w19 (HST.out.t.rdc hob))
        dsimp only at HKY
        clear hz HFIT
        generalize (movB op && lastK pl) = kb at *
        go_wp2_with (refine wpl_loadG rfl stC rfl rfl (ccells_len _) HK29.out ?_)
        refine HKY.out.mono ?_
        rintro e w20 ⟨rfl, hb⟩
        have HST20 := Lib.hid (HST.out.below hb)
        clear hb HKY HK29 HST l0 hq
        cases kb with
        | false =>
          go_wp2_with fail
          go_meet
          exact ⟨by rw [HFT.out]; rfl, HST20.out⟩
        | true =>
          have HC13 : Hid (∀ j, j < 13 → w20.cell? ⟨g13, 0 + j, none⟩ = (VC.cells c13)[j]?) := rowV HST20.out.b13
          have HNM := Lib.hid (number_any c13 w20 HD13.out.1 HD13.out.2.1 HD13.out.2.2.1 HD13.out.2.2.2 (vc_one HST20.out.r13.any))
          rw [HNV.out] at HNM
          go_wp2_with (refine wpl_loadG rfl stVk rfl rfl (cells_len _) HC13.out ?_)
          refine HNM.out.mono ?_
          rintro e w21 ⟨rfl, hb⟩
          have HST21 := Lib.hid (HST20.out.below hb)
          clear hb HNM HC13 HST20
          go_wp2_with fail
          go_meet
          exact ⟨by rw [HFT.out]; simp, HST21.out⟩
      case rest =>
      obtain ⟨rfl, hst⟩ := hcut
      clear HST HFIT
      have HST := Lib.hid hst
      clear hst
      generalize ((fieldF kAt (flV v)).isSome == (movB op && lastK pl)) = s14
      generalize ((fieldF kOld (flV v)).isSome == oldB op) = s16
      generalize ((fieldF kNew (flV v)).isSome == newB op) = s18
      cases hft : fitF (flV v) op pl with
      | false =>
        have HF : Hid (r = (ch0, 3)) := by unfold Hid; rw [HR.out, if_pos hft]
        have HRW := Lib.hid HST.out.t.rw
        have HONEcc : Hid (∀ u ∈ CC.cells ⟨op, .slice pa pl.length pcap, 0, c0F, c0F⟩, u.oneCell' = true) := one_cc one_c0 one_c0 rfl
        clear HR HST hft
        have HC29 : Hid (∀ j, j < 29 → wc.cell? ⟨w.heap.size + 1 + 1, 0 + j, none⟩ = (CC.cells ⟨op, .slice pa pl.length pcap, 0, c0F, c0F⟩)[j]?) := (rowC5 HRW.out.x4).2.2.2.1
        have HX2 := Lib.hid HRW.out.x2
        have HBW := Lib.hid HRW.out.b
        go_wp2_with (first
          | refine wpl_load rfl rfl stC rfl (ccells_len _) HC29.out ?_
          | (refine wpl_store rfl rfl stC.2 rfl rfl (cs := CC.cells ⟨op, .slice pa pl.length pcap, 0, c0F, c0F⟩) rfl (ccells_len _) HONEcc.out HX2.out (Nat.le_refl 29) (row := CC.cells ⟨op, .slice pa pl.length pcap, 0, c0F, c0F⟩) (by rw [List.take_zero, List.nil_append, List.drop_of_length_le (Nat.le_refl 29), List.append_nil]) ?_; generalize hW9 : World.setRow _ _ _ = w9; obtain ⟨hd9, hk9, hz9, hb9⟩ := setRow_of hW9 HX2.out; clear hW9))
        refine bodyPost_ret (results_two rfl _ _ (w.heap.size + 1) _ _ _ _ _ rfl rfl hd9 Tryz.underlying54 rfl (by kernel_rfl)) rfl ⟨_, by rw [HF.out]; rfl, HONEcc.out, (fun h => by rw [HF.out] at h; exact absurd h (by decide)), HBW.out.trans (hb9 _ (by omega))⟩
      | true =>
      replace HR : Hid (r = if movB op = true ∧ pl = [] then (ch0, 1) else (changeOf (flV v) op pl, 0)) := by unfold Hid; rw [HR.out, if_neg (by rw [hft]; decide)]
      clear hft
      obtain ⟨ps, hps⟩ : ∃ ps, ps = if (movB op && lastK pl) = true then numV ((fieldF kAt (flV v)).getD v0) else 0 := ⟨_, rfl⟩
      have HPOS := Lib.hid hps
      clear hps
      have HK29 : Hid (∀ j, j < 29 → wc.cell? ⟨w.heap.size + 1 + 1, 0 + j, none⟩ = (CC.cells ⟨op, .slice pa pl.length pcap, 0, c0F, c0F⟩)[j]?) := (rowC5 HST.out.t.rw.x4).2.2.2.1
      have HKY := Lib.hid (keyed_any ⟨op, pl, 0, v0, v0⟩ ⟨op, .slice pa pl.length pcap, 0, c0F, c0F⟩ wc (HST.out.t.rdc hob))
      dsimp only at HKY
      go_upto_region 24 with fail
      go_wp2_with (refine wpl_load rfl rfl stC rfl (ccells_len _) HK29.out ?_)
      refine HKY.out.mono ?_
      rintro e w20 ⟨rfl, hb⟩
      have HST20 := Lib.hid (HST.out.below hb)
      clear hb HKY HK29 HST
      go_upto_if 122 with fail
      go_cut [] (fun wx => ST3 w wx ⟨⟨7, a1, a2, a3, a4, a5, a6, a7, a8, a9, a10⟩, .slice q1 n1 m1, .slice q2 n2 m2, .slice q3 (flV v).length m3⟩ ⟨op, .slice pa pl.length pcap, ps, c0F, c0F⟩ (.slice pa pl.length pcap) pl gl n3 g13 g15 g17 c13 c15 c17 ((fieldF kAt (flV v)).getD v0) ((fieldF kOld (flV v)).getD v0) ((fieldF kNew (flV v)).getD v0))
      case first =>
        cases hkb : (movB op && lastK pl) with
        | false =>
          have HF : Hid (ps = 0) := by unfold Hid; rw [HPOS.out, if_neg (by rw [hkb]; decide)]
          clear hkb
          go_wp2_with fail
          go_meet
          rw [HF.out]
          exact HST20.out
        | true =>
          have HF : Hid (ps = numV ((fieldF kAt (flV v)).getD v0)) := by unfold Hid; rw [HPOS.out, if_pos hkb]
          clear hkb
          have HC13 : Hid (∀ j, j < 13 → w20.cell? ⟨g13, 0 + j, none⟩ = (VC.cells c13)[j]?) := rowV HST20.out.b13
          have HNM := Lib.hid (number_any c13 w20 HD13.out.1 HD13.out.2.1 HD13.out.2.2.1 HD13.out.2.2.2 (vc_one HST20.out.r13.any))
          rw [HNV.out, ← HF.out] at HNM
          go_wp2_with (refine wpl_load rfl rfl stVk rfl (cells_len _) HC13.out ?_)
          refine HNM.out.mono ?_
          rintro e w21 ⟨rfl, hb⟩
          have HST21 := Lib.hid (HST20.out.below hb)
          clear hb HNM HC13 HST20
          go_wp2_with (refine wpl_store rfl rfl stI rfl rfl (cs := [.int .i64 ps]) rfl rfl (by intro u hu; rw [List.mem_singleton.1 hu]; rfl) HST21.out.t.rw.x4 (by rw [ccells_len]; decide) (row := CC.cells ⟨op, .slice pa pl.length pcap, ps, c0F, c0F⟩) rfl ?_; generalize hW4 : World.setRow _ _ _ = w22; have HST22 := Lib.hid (HST21.out.set hW4); clear hW4)
          go_meet
          exact HST22.out
      case rest =>
      have HST := Lib.hid hcut
      clear hcut HST20
      have HSX : Hid (∀ w', Below wc.heap.size wc w' → (∀ j, j < 13 → w'.cell? ⟨g15, 0 + j, none⟩ = (VC.cells c15)[j]?) ∧ (∀ j, j < 13 → w'.cell? ⟨g17, 0 + j, none⟩ = (VC.cells c17)[j]?)) := fun w' hb => ⟨rowV (HST.out.below hb).b15, rowV (HST.out.below hb).b17⟩
      have HN15 : Hid (nodV ((fieldF kOld (flV v)).getD v0) ≤ 1000000 ∧ depV ((fieldF kOld (flV v)).getD v0) ≤ 65536) := fd_small kOld v hn (by omega)
      have HN17 : Hid (nodV ((fieldF kNew (flV v)).getD v0) ≤ 1000000 ∧ depV ((fieldF kNew (flV v)).getD v0) ≤ 65536) := fd_small kNew v hn (by omega)
      go_upto_region 26 with fail
      refine wp_region_held_drew (S := fun w' => (∀ j, j < 13 → w'.cell? ⟨g15, 0 + j, none⟩ = (VC.cells c15)[j]?) ∧ (∀ j, j < 13 → w'.cell? ⟨g17, 0 + j, none⟩ = (VC.cells c17)[j]?)) (by kernel_rfl) (HSX.out _ (drewB wc)) (fun hHeld => ?_)
      replace HST := Lib.hid (HST.out.below (drewB wc))
      generalize wc.drew = wd at *
      have HZW : Hid (w.heap.size + 3 ≤ wd.heap.size) := HST.out.t.rw.z
      refine take_at 0 (some 126) rfl rfl (by kernel_rfl) (by kernel_rfl) (by kernel_rfl) (fun _ _ _ h => h) (yl_load (cs := VC.cells c15) stVk (cells_len _) _ _ (fun w hS => hS.1) rfl _ rfl rfl) hHeld ?_
      simp only [Act.put, List.setIfInBounds_toArray, List.set_cons_zero, List.set_cons_succ]
      refine take_at 2 (some 128) rfl rfl (by kernel_rfl) (by kernel_rfl) (by kernel_rfl) (fun _ _ _ h => h) (yl_load (cs := VC.cells c17) stVk (cells_len _) _ _ (fun w hS => hS.2) rfl _ rfl rfl) hHeld ?_
      simp only [Act.put, List.setIfInBounds_toArray, List.set_cons_zero, List.set_cons_succ]
      refine wpAnyH_ready (rs := [1]) (by kernel_rfl) (by simp) ?_
      refine AllReadyH.cons rfl (fun K hK => ?_) AllReadyH.nil
      go_simp
      refine (Copy_any _ c15 wd HN15.out.1 HN15.out.2 HST.out.r15.any).mono ?_
      rintro e w20 ⟨c21, rfl, hr, hb⟩
      have HST20 := Lib.hid (HST.out.below hb)
      have HRA := Lib.hid hr
      have HZA := Lib.hid hb.size
      clear hHeld
      refine hK.out _ _ ⟨rowV HST20.out.b15, rowV HST20.out.b17⟩ (fun hHeld => ?_)
      clear hK K hr hb HST
      refine take_at 4 (some 130) rfl rfl (by kernel_rfl) (by kernel_rfl) (by kernel_rfl) (fun _ _ _ h => h) (Or.inl ⟨by rfl, fun w hSw => by (go_simp; with_reducible rfl)⟩) hHeld ?_
      simp only [Act.put, List.setIfInBounds_toArray, List.set_cons_zero, List.set_cons_succ]
      refine wpAnyH_ready (rs := [3]) (by kernel_rfl) (by simp) ?_
      refine AllReadyH.cons rfl (fun K hK => ?_) AllReadyH.nil
      go_simp
      refine (Copy_any _ c17 w20 HN17.out.1 HN17.out.2 HST20.out.r17.any).mono ?_
      rintro e w21 ⟨c22, rfl, hr, hb⟩
      have HST21 := Lib.hid (HST20.out.below hb)
      have HRB := Lib.hid hr
      replace HRA := Lib.hid (HRA.out.stays hb)
      have HZB := Lib.hid hb.size
      clear hHeld
      refine hK.out _ _ ⟨rowV HST21.out.b15, rowV HST21.out.b17⟩ (fun hHeld => ?_)
      clear hK K hr hb HST20
      refine wpAnyH_ready (rs := [5]) (by kernel_rfl) (by simp) ?_
      refine AllReadyH.cons rfl (fun K hK => ?_) AllReadyH.nil
      refine step_store (row := CC.cells ⟨op, .slice pa pl.length pcap, ps, c21, c0F⟩) rfl _ _ rfl stV.2 (w.heap.size + 1 + 1) 3 rfl rfl (cs := VC.cells c21) rfl (cells_len _) (vc_one HRA.out.any) HST21.out.t.rw.x4 (by rw [ccells_len]; decide) rfl ?_
      generalize hW4 : World.setRow _ _ _ = w22
      have HST22 := Lib.hid (HST21.out.set hW4)
      obtain ⟨-, hk22, hz22, -⟩ := setRow_of hW4 HST21.out.t.rw.x4
      replace HRA : Hid (RdI w22 (fun b => w.heap.size + 3 ≤ b) c21 ((fieldF kOld (flV v)).getD v0)) := (HRA.out.mono fun b hb => by have := HZA.out; have := HZW.out; omega).kept (fun b hb _ => hk22 b (by omega)) (by omega)
      replace HRB : Hid (RdI w22 (fun b => w.heap.size + 3 ≤ b) c22 ((fieldF kNew (flV v)).getD v0)) := (HRB.out.mono fun b hb => by have := HZA.out; have := HZW.out; omega).kept (fun b hb _ => hk22 b (by omega)) (by omega)
      clear hHeld
      refine hK.out _ _ ⟨rowV HST22.out.b15, rowV HST22.out.b17⟩ (fun hHeld => ?_)
      clear hK K hW4 hk22 hz22 HST21
      refine take_at 6 (some 131) rfl rfl (by kernel_rfl) (by kernel_rfl) (by kernel_rfl) (fun _ _ _ h => h) (Or.inl ⟨by rfl, fun w hSw => by (go_simp; with_reducible rfl)⟩) hHeld ?_
      simp only [Act.put, List.setIfInBounds_toArray, List.set_cons_zero, List.set_cons_succ]
      refine wpAnyH_ready (rs := [7]) (by kernel_rfl) (by simp) ?_
      refine AllReadyH.cons rfl (fun K hK => ?_) AllReadyH.nil
      refine step_store (row := CC.cells ⟨op, .slice pa pl.length pcap, ps, c21, c22⟩) rfl _ _ rfl stV.2 (w.heap.size + 1 + 1) 16 rfl rfl (cs := VC.cells c22) rfl (cells_len _) (vc_one HRB.out.any) HST22.out.t.rw.x4 (by rw [ccells_len]; decide) rfl ?_
      generalize hW4 : World.setRow _ _ _ = w23
      have HST23 := Lib.hid (HST22.out.set hW4)
      obtain ⟨-, hk23, hz23, -⟩ := setRow_of hW4 HST22.out.t.rw.x4
      replace HRA : Hid (RdI w23 (fun b => w.heap.size + 3 ≤ b) c21 ((fieldF kOld (flV v)).getD v0)) := HRA.out.kept (fun b hb _ => hk23 b (by omega)) (by omega)
      replace HRB : Hid (RdI w23 (fun b => w.heap.size + 3 ≤ b) c22 ((fieldF kNew (flV v)).getD v0)) := HRB.out.kept (fun b hb _ => hk23 b (by omega)) (by omega)
      clear hHeld
      refine hK.out _ _ ⟨rowV HST23.out.b15, rowV HST23.out.b17⟩ (fun hHeld => ?_)
      clear hK K hW4 hk23 hz23 HST22 hHeld
      refine wpAnyH_done (by kernel_rfl) ?_ _
      go_simp
      have HIP : Hid (I64 ps) := by
        unfold Hid
        rw [HPOS.out]
        have := numV_bd ((fieldF kAt (flV v)).getD v0)
        split
        · exact ⟨by omega, by omega⟩
        · exact i64_0
      have HMV : Hid (movB op = decide (op = 2 ∨ op = 3)) := rfl
      obtain ⟨y0, y1, -, -, -, -⟩ := rowC5 HST23.out.t.rw.x4
      dsimp only at y0 y1
      clear HFD HV HE HAT HD13 HNV
      by_cases hp : pl = []
      case neg =>
        have HF : Hid (r = (changeOf (flV v) op pl, 0)) := by unfold Hid; rw [HR.out, if_neg (fun h => hp h.2)]
        have hq : (((pl.length : Nat) : Int) == 0) = false := by
          rw [beq_eq_false_iff_ne]
          have := List.length_pos_iff.2 hp
          omega
        clear HR HMV hp
        go_upto_region 29 with fail
        have HONEcc : Hid (∀ u ∈ CC.cells ⟨op, .slice pa pl.length pcap, ps, c21, c22⟩, u.oneCell' = true) := one_cc (vc_one HRA.out.any) (vc_one HRB.out.any) rfl
        have HC29 : Hid (∀ j, j < 29 → w23.cell? ⟨w.heap.size + 1 + 1, 0 + j, none⟩ = (CC.cells ⟨op, .slice pa pl.length pcap, ps, c21, c22⟩)[j]?) := (rowC5 HST23.out.t.rw.x4).2.2.2.1
        have HX2 := Lib.hid HST23.out.t.rw.x2
        have HBW := Lib.hid HST23.out.t.rw.b
        go_wp2_with (first
          | refine wpl_load rfl rfl stC rfl (ccells_len _) HC29.out ?_
          | (refine wpl_store rfl rfl stC.2 rfl rfl (cs := CC.cells ⟨op, .slice pa pl.length pcap, ps, c21, c22⟩) rfl (ccells_len _) HONEcc.out HX2.out (Nat.le_refl 29) (row := CC.cells ⟨op, .slice pa pl.length pcap, ps, c21, c22⟩) (by rw [List.take_zero, List.nil_append, List.drop_of_length_le (Nat.le_refl 29), List.append_nil]) ?_; generalize hW9 : World.setRow _ _ _ = w9; obtain ⟨hd9, hk9, hz9, hb9⟩ := setRow_of hW9 HX2.out; clear hW9; refine RowKit.Hid.out ?_))
        unfold RowKit.Hid
        repeat go_step
        refine bodyPost_ret (results_two rfl _ _ (w.heap.size + 1) _ _ _ _ _ rfl rfl hd9 Tryz.underlying54 rfl (by kernel_rfl)) rfl ⟨_, by rw [HF.out]; rfl, HONEcc.out, (fun _ => by rw [HF.out]; exact ⟨rfl, HPOS.out, ⟨by show _ ≤ op; omega, by show op ≤ _; omega⟩, (by have h := HIP.out; rw [HPOS.out] at h; exact h), HST23.out.t.rp.kept HST23.out.t.bp (fun b hb _ => hk9 b (by omega)) (by omega), HST23.out.t.bp.mono fun b hb => by omega, (HRA.out.kept (fun b hb _ => hk9 b (by omega)) (by omega)).mono fun b hb => by omega, (HRB.out.kept (fun b hb _ => hk9 b (by omega)) (by omega)).mono fun b hb => by omega⟩), HBW.out.trans (hb9 _ (by omega))⟩
      case pos =>
      have hq : (((pl.length : Nat) : Int) == 0) = true := by rw [hp]; rfl
      by_cases h2 : op = 2
      case pos =>
        have HF : Hid (r = (ch0, 1)) := by unfold Hid; rw [HR.out, if_pos ⟨by rw [HMV.out, decide_eq_true (.inl h2)], hp⟩]
        have hq2 : (op == 2) = true := by rw [beq_iff_eq]; exact h2
        clear HR HMV hp h2
        have HONEcc : Hid (∀ u ∈ CC.cells ⟨op, .slice pa pl.length pcap, ps, c21, c22⟩, u.oneCell' = true) := one_cc (vc_one HRA.out.any) (vc_one HRB.out.any) rfl
        have HC29 : Hid (∀ j, j < 29 → w23.cell? ⟨w.heap.size + 1 + 1, 0 + j, none⟩ = (CC.cells ⟨op, .slice pa pl.length pcap, ps, c21, c22⟩)[j]?) := (rowC5 HST23.out.t.rw.x4).2.2.2.1
        have HX2 := Lib.hid HST23.out.t.rw.x2
        have HBW := Lib.hid HST23.out.t.rw.b
        go_wp2_with (first
          | refine wpl_load rfl rfl stC rfl (ccells_len _) HC29.out ?_
          | (refine wpl_store rfl rfl stC.2 rfl rfl (cs := CC.cells ⟨op, .slice pa pl.length pcap, ps, c21, c22⟩) rfl (ccells_len _) HONEcc.out HX2.out (Nat.le_refl 29) (row := CC.cells ⟨op, .slice pa pl.length pcap, ps, c21, c22⟩) (by rw [List.take_zero, List.nil_append, List.drop_of_length_le (Nat.le_refl 29), List.append_nil]) ?_; generalize hW9 : World.setRow _ _ _ = w9; obtain ⟨hd9, hk9, hz9, hb9⟩ := setRow_of hW9 HX2.out; clear hW9; refine RowKit.Hid.out ?_))
        unfold RowKit.Hid
        repeat go_step
        refine bodyPost_ret (results_two rfl _ _ (w.heap.size + 1) _ _ _ _ _ rfl rfl hd9 Tryz.underlying54 rfl (by kernel_rfl)) rfl ⟨_, by rw [HF.out]; rfl, HONEcc.out, (fun h => by rw [HF.out] at h; exact absurd h (by decide)), HBW.out.trans (hb9 _ (by omega))⟩
      have hq2 : (op == 2) = false := by rw [beq_eq_false_iff_ne]; exact h2
      by_cases h3 : op = 3
      case pos =>
        have HF : Hid (r = (ch0, 1)) := by unfold Hid; rw [HR.out, if_pos ⟨by rw [HMV.out, decide_eq_true (.inr h3)], hp⟩]
        have hq3 : (op == 3) = true := by rw [beq_iff_eq]; exact h3
        clear HR HMV hp h2 h3
        have HONEcc : Hid (∀ u ∈ CC.cells ⟨op, .slice pa pl.length pcap, ps, c21, c22⟩, u.oneCell' = true) := one_cc (vc_one HRA.out.any) (vc_one HRB.out.any) rfl
        have HC29 : Hid (∀ j, j < 29 → w23.cell? ⟨w.heap.size + 1 + 1, 0 + j, none⟩ = (CC.cells ⟨op, .slice pa pl.length pcap, ps, c21, c22⟩)[j]?) := (rowC5 HST23.out.t.rw.x4).2.2.2.1
        have HX2 := Lib.hid HST23.out.t.rw.x2
        have HBW := Lib.hid HST23.out.t.rw.b
        go_wp2_with (first
          | refine wpl_load rfl rfl stC rfl (ccells_len _) HC29.out ?_
          | (refine wpl_store rfl rfl stC.2 rfl rfl (cs := CC.cells ⟨op, .slice pa pl.length pcap, ps, c21, c22⟩) rfl (ccells_len _) HONEcc.out HX2.out (Nat.le_refl 29) (row := CC.cells ⟨op, .slice pa pl.length pcap, ps, c21, c22⟩) (by rw [List.take_zero, List.nil_append, List.drop_of_length_le (Nat.le_refl 29), List.append_nil]) ?_; generalize hW9 : World.setRow _ _ _ = w9; obtain ⟨hd9, hk9, hz9, hb9⟩ := setRow_of hW9 HX2.out; clear hW9; refine RowKit.Hid.out ?_))
        unfold RowKit.Hid
        repeat go_step
        refine bodyPost_ret (results_two rfl _ _ (w.heap.size + 1) _ _ _ _ _ rfl rfl hd9 Tryz.underlying54 rfl (by kernel_rfl)) rfl ⟨_, by rw [HF.out]; rfl, HONEcc.out, (fun h => by rw [HF.out] at h; exact absurd h (by decide)), HBW.out.trans (hb9 _ (by omega))⟩
      case neg =>
        have HF : Hid (r = (changeOf (flV v) op pl, 0)) := by unfold Hid; rw [HR.out, if_neg (fun h => by rw [HMV.out, decide_eq_true_iff] at h; rcases h.1 with h | h; exact h2 h; exact h3 h)]
        have hq3 : (op == 3) = false := by rw [beq_eq_false_iff_ne]; exact h3
        clear HR HMV hp h2 h3
        have HONEcc : Hid (∀ u ∈ CC.cells ⟨op, .slice pa pl.length pcap, ps, c21, c22⟩, u.oneCell' = true) := one_cc (vc_one HRA.out.any) (vc_one HRB.out.any) rfl
        have HC29 : Hid (∀ j, j < 29 → w23.cell? ⟨w.heap.size + 1 + 1, 0 + j, none⟩ = (CC.cells ⟨op, .slice pa pl.length pcap, ps, c21, c22⟩)[j]?) := (rowC5 HST23.out.t.rw.x4).2.2.2.1
        have HX2 := Lib.hid HST23.out.t.rw.x2
        have HBW := Lib.hid HST23.out.t.rw.b
        go_wp2_with (first
          | refine wpl_load rfl rfl stC rfl (ccells_len _) HC29.out ?_
          | (refine wpl_store rfl rfl stC.2 rfl rfl (cs := CC.cells ⟨op, .slice pa pl.length pcap, ps, c21, c22⟩) rfl (ccells_len _) HONEcc.out HX2.out (Nat.le_refl 29) (row := CC.cells ⟨op, .slice pa pl.length pcap, ps, c21, c22⟩) (by rw [List.take_zero, List.nil_append, List.drop_of_length_le (Nat.le_refl 29), List.append_nil]) ?_; generalize hW9 : World.setRow _ _ _ = w9; obtain ⟨hd9, hk9, hz9, hb9⟩ := setRow_of hW9 HX2.out; clear hW9; refine RowKit.Hid.out ?_))
        unfold RowKit.Hid
        repeat go_step
        refine bodyPost_ret (results_two rfl _ _ (w.heap.size + 1) _ _ _ _ _ rfl rfl hd9 Tryz.underlying54 rfl (by kernel_rfl)) rfl ⟨_, by rw [HF.out]; rfl, HONEcc.out, (fun _ => by rw [HF.out]; exact ⟨rfl, HPOS.out, ⟨by show _ ≤ op; omega, by show op ≤ _; omega⟩, (by have h := HIP.out; rw [HPOS.out] at h; exact h), HST23.out.t.rp.kept HST23.out.t.bp (fun b hb _ => hk9 b (by omega)) (by omega), HST23.out.t.bp.mono fun b hb => by omega, (HRA.out.kept (fun b hb _ => hk9 b (by omega)) (by omega)).mono fun b hb => by omega, (HRB.out.kept (fun b hb _ => hk9 b (by omega)) (by omega)).mono fun b hb => by omega⟩), HBW.out.trans (hb9 _ (by omega))⟩
    have y0 : wr.cell? ⟨g5, 0, none⟩ = some (.int .i64 c5.h.kind) := cell_of_row _ _ _ _ _ _ HA.out
    have y9 : wr.cell? ⟨g5, 9, none⟩ = some (.string c5.h.text) := cell_of_row _ _ _ _ _ _ HA.out
    by_cases h4 : c5.h.kind = 4
    case neg =>
      have hq : (c5.h.kind == 4) = false := by rw [beq_eq_false_iff_ne]; exact h4
      have HN : Hid (on (j + 1) = on j) := by unfold Hid; rw [HON.out]; simp [h4]
      clear h4
      go_wp2_with fail
      go_quiet (fail)
      go_wp2_with fail
      exact ⟨⟨j + 1, by omega, by go_num, by rw [HN.out]; exact HRW.out.below (drewNB _ _), HA.out, HB.out⟩, by simp [intOf]; omega⟩
    case pos =>
      have hq : (c5.h.kind == 4) = true := by rw [beq_iff_eq]; exact h4
      have HH4 := Lib.hid h4
      clear h4
      by_cases ht : c5.h.text = nameS ((j : Int) + 1)
      case pos =>
        have HN : Hid (on (j + 1) = (j : Int) + 1) := by unfold Hid; rw [HON.out]; simp only [HH4.out, if_true]; rw [opS, if_pos ht]
        have hqt : (c5.h.text.toList == (nameS ((j : Int) + 1)).toList) = true := by rw [ht]; exact beq_self_eq_true _
        clear ht
        go_wp2_with fail
        go_quiet ((go_at_call 34; exact Calls.quiet_of_same (name_q _ _)))
        have HX4 : Hid ((wr.drewN nq).heap[w.heap.size + 1 + 1]? = some (.cells (CC.cells ⟨on j, .slice none 0 0, 0, c0F, c0F⟩).toArray 54 (0, 0))) := HRW.out.x4
        go_wp2_with (refine wpl_store rfl rfl stI rfl rfl (cs := [.int .i64 ((j : Int) + 1)]) rfl rfl (by intro u hu; rw [List.mem_singleton.1 hu]; rfl) HX4.out (by rw [ccells_len]; decide) (row := CC.cells ⟨(j : Int) + 1, .slice none 0 0, 0, c0F, c0F⟩) rfl ?_; generalize hW4 : World.setRow _ _ _ = w8; obtain ⟨h81, h82, h83⟩ := RW.set (HRW.out.below (drewNB _ _)) hW4; clear hW4)
        exact ⟨⟨j + 1, by omega, by go_num, by rw [HN.out]; exact h81, (h82 _ (by have := HG5.out; omega)).trans HA.out, (h82 _ (by have := HG5.out; have := HG7.out; omega)).trans HB.out⟩, by simp [intOf]; omega⟩
      case neg =>
        have HN : Hid (on (j + 1) = on j) := by unfold Hid; rw [HON.out]; simp only [HH4.out, if_true]; rw [opS, if_neg ht]
        have hqt : (c5.h.text.toList == (nameS ((j : Int) + 1)).toList) = false := by
          rw [beq_eq_false_iff_ne]
          intro h
          rw [toList_L, toList_L] at h
          exact ht (L_inj h)
        clear ht
        go_wp2_with fail
        go_quiet ((go_at_call 34; exact Calls.quiet_of_same (name_q _ _)))
        go_wp2_with fail
        exact ⟨⟨j + 1, by omega, by go_num, by rw [HN.out]; exact HRW.out.below (drewNB _ _), HA.out, HB.out⟩, by simp [intOf]; omega⟩
end Go.Proofs.YthdninnjjmhpfaaGreatDoor

namespace Go.Proofs.YthdninnjjmhpfaaGreatDoor
open Go.RowKit
set_option maxHeartbeats 4000000
set_option maxRecDepth 100000

end Go.Proofs.YthdninnjjmhpfaaGreatDoor

namespace Go.Proofs.YthdninnjjmhpfaaGreatDoor
open Go.RowKit
set_option maxHeartbeats 4000000
set_option maxRecDepth 100000

def lsV : V → List V
  | .mk _ l _ => l
/-- A change's numbers in a map of fields are in normal form. -/
def AtOk (x : V) : Prop := ∀ y, fieldF kAt (flV x) = some y → decB (hdV y).neg (L (hdV y).ds) (hdV y).exp = true ∧ (hdV y).ds.size ≤ 120 ∧ (hdV y).exp ≤ 400 ∧ -400 ≤ (hdV y).exp
/-- The changes that the values are, or the first error. -/
def readsL : List V → List Ch × Nat
  | [] => ([], 0)
  | x :: t => if (readC x).2 ≠ 0 then ([], (readC x).2) else if (readsL t).2 ≠ 0 then ([], (readsL t).2) else ((readC x).1 :: (readsL t).1, 0)
def readV (v : V) : List Ch × Nat := if (hdV v).kind ≠ 6 then ([], 6) else readsL (lsV v)
theorem reads_err : ∀ (l : List V) (k : Nat) (hk : k < l.length), (∀ i (hi : i < k), (readC (l[i]'(by omega))).2 = 0) → (readC l[k]).2 ≠ 0 → readsL l = ([], (readC l[k]).2)
  | x :: t, 0, _, _, h => by
    have h : (readC x).2 ≠ 0 := h
    rw [readsL, if_pos h]
    rfl
  | x :: t, k + 1, hk, h0, h => by
    have ih := reads_err t k (by simpa using hk) (fun i hi => h0 (i + 1) (by omega)) h
    have hx : (readC x).2 = 0 := h0 0 (by omega)
    have hk' : k < t.length := by simpa using hk
    have h : (readC t[k]).2 ≠ 0 := h
    rw [readsL, if_neg (by omega), ih]
    exact if_pos h
theorem reads_ok : ∀ (l : List V), (∀ i (hi : i < l.length), (readC l[i]).2 = 0) → readsL l = (l.map (fun x => (readC x).1), 0)
  | [], _ => rfl
  | x :: t, h => by
    have ih := reads_ok t (fun i hi => h (i + 1) (by simpa using hi))
    have hx : (readC x).2 = 0 := h 0 (by simp)
    rw [readsL, if_neg (by omega), ih, if_neg (fun h => h rfl)]
    rfl
theorem ls_rd {w : World} {S : Nat → Prop} {c : VC} {v : V} (h : RdI w S c v) : ∃ lc : Nat → VC, Sl w c.l (lsV v).length 13 (fun i => (lc i).cells) ∧ ∀ i (hi : i < (lsV v).length), RdI w S (lc i) (lsV v)[i] := by
  cases h with
  | mk h l f bv lv fv lc fc ok hb hl hL hf hK hF sb sl sf => exact ⟨lc, hl, hL⟩
theorem ls_small (v : V) : (lsV v).length ≤ nodV v ∧ ∀ i (hi : i < (lsV v).length), nodV (lsV v)[i] ≤ nodV v ∧ depV (lsV v)[i] ≤ depV v := by
  cases v with
  | mk h l f =>
    refine ⟨?_, fun i hi => ?_⟩
    · have := nodL_len l
      rw [nodV_mk]
      show l.length ≤ _
      omega
    · have h1 := nodL_at l i hi
      have h2 := depL_at l i hi
      rw [nodV_mk, depV_mk]
      show nodV l[i] ≤ _ ∧ depV l[i] ≤ _
      omega
theorem nil_rdl (w : World) : RdL w (.slice none 0 0) [] := by
  obtain ⟨lc, hsl, hrd, _⟩ := (OwnT.nil : OwnT 54 29 CC.cells RdC w 0 (.slice none 0 0) []).sl stbC ccells_len c00 (by simp)
  exact ⟨lc, hsl, fun i hi => (hrd i hi).any⟩
/-- What Read hands back. -/
def ReadsPost (w : World) (r : List Ch × Nat) (e : Ending) (w' : World) : Prop := ∃ s, e = .returned (.tuple #[s, .int .i64 (r.2 : Nat)]) ∧ RdL w' s r.1 ∧ Below w.heap.size w w'
theorem PRead_any (v : V) (c : VC) (w : World) (hn : nodV v ≤ 4096) (hd : depV v ≤ 60000) (hv : RdV w c v) (he : Env w) (hat : ∀ x ∈ lsV v, AtOk x) :
    Calls Tryz.prog 14 #[aggV c] w (ReadsPost w (readV v)) := by
  have hkc : c.h = hdV v := rd_head hv
  obtain ⟨lc, ⟨la, lcap, hle, hl1, ⟨hl2, _⟩, hl3, hl4⟩, hlr⟩ := ls_rd hv
  obtain ⟨hs1, hs2⟩ := ls_small v
  have HLE := Lib.hid hle
  have HCE := Lib.hid hl4
  have HRD := Lib.hid hlr
  have HSM := Lib.hid hs2
  have HE := Lib.hid he
  have HAT : Hid (∀ i (hi : i < (lsV v).length), AtOk (lsV v)[i]) := fun i hi => hat _ (List.getElem_mem hi)
  obtain ⟨r, hr⟩ : ∃ r, r = readV v := ⟨_, rfl⟩
  rw [← hr]
  unfold readV at hr
  rw [← hkc] at hr
  have HR := Lib.hid hr
  obtain ⟨h0, q1, q2, q3, n1, n2, n3, m1, m2, m3, hcf⟩ := hv.forms
  clear hv he hat hr hkc hle hl3 hl4 hlr hs2
  subst hcf
  dsimp only at HR HLE
  obtain ⟨a0, a1, a2, a3, a4, a5, a6, a7, a8, a9, a10⟩ := h0
  dsimp only at HR
  have hll : (lsV v).length ≤ 4096 := by omega
  have HN : Hid (nodV v ≤ 4096) := hn
  have HD : Hid (depV v ≤ 60000) := hd
  clear hn hd hs1
  obtain ⟨hx1, hx2, hx3⟩ : q2 = la ∧ n2 = (lsV v).length ∧ m2 = lcap := by simpa using HLE.out
  subst hx1 hx2 hx3
  clear HLE
  generalize lsV v = l at *
  go_enter Tryz.func14, Tryz.ntmps14
  go_upto_region 1 with fail
  generalize hW1 : World.alloc w _ = w1
  obtain ⟨ha1, -, hz1, hb1⟩ := alloc_of hW1
  obtain ⟨⟨x0, -, -, -, -, -, -, -, -, -, -, x11, -⟩, -⟩ := box13 ha1
  have HBW := Lib.hid hb1
  clear hW1 ha1 hz1 hb1
  by_cases hk6 : a0 = 6
  case neg =>
    have HF : Hid (r = ([], 6)) := by unfold Hid; rw [HR.out, if_pos hk6]
    have hq : (a0 != 6) = true := by rw [bne_iff_ne]; exact hk6
    clear HR hk6 HAT HE HRD HCE HSM
    go_wp2_with fail
    go_ret2
    exact ⟨_, by rw [HF.out]; rfl, by rw [HF.out]; exact nil_rdl _, HBW.out⟩
  subst hk6
  replace HR : Hid (r = readsL l) := by unfold Hid; rw [HR.out, if_neg (by decide)]
  go_wp2_with fail
  go_loopw [4, 19] (fun o iv wr => ∃ k : Nat, k ≤ l.length ∧ iv = .int .i64 (k : Int) ∧ OwnT 54 29 CC.cells RdC wr w.heap.size o ((l.take k).map (fun x => (readC x).1)) ∧ Below w.heap.size w wr ∧ Hid (∀ i (hi : i < l.length), i < k → (readC l[i]).2 = 0)) (fun _ iv _ => l.length - (intOf iv).toNat)
  case atStart => exact ⟨0, Nat.zero_le _, rfl, OwnT.nil, HBW.out, fun i _ h => absurd h (Nat.not_lt_zero _)⟩
  case round =>
    clear HBW x0 x11
    obtain ⟨k, hk, rfl, hown, hbw, HZ⟩ := hrel
    by_cases hlt : k < l.length
    case neg =>
      obtain rfl : k = l.length := by omega
      have HO : Hid (ReadsPost w r (.returned (.tuple #[u4, .int .i64 0])) wr) := by
        have hr := HR.out
        rw [reads_ok l (fun i hi => HZ.out i hi hi)] at hr
        rw [List.take_length] at hown
        obtain ⟨lc, hsl, hrd, _⟩ := hown.sl stbC ccells_len c00 (by rw [List.length_map]; omega)
        exact ⟨u4, by rw [hr]; rfl, by rw [hr]; exact ⟨lc, hsl, fun i hi => (hrd i hi).any⟩, hbw⟩
      clear hown HR HZ hbw HAT HE HRD HCE HSM
      go_wp2_with fail
      go_ret2
      exact HO.out
    obtain ⟨g, o, rfl, hg, hat⟩ := HCE.out (by omega)
    have HAT1 := Lib.hid (fun j hj => (hbw.cell hg).trans (hat k hlt j hj))
    have hrd := (HRD.out k hlt).stays hbw
    have HONE := Lib.hid (vc_one hrd.any)
    have hsm := HSM.out k hlt
    have HRC := Lib.hid (fun w' (hb : Below wr.heap.size wr w') => PRead1_any l[k] (lc k) w' (by have := HN.out; omega) (by have := HD.out; omega) (hrd.stays hb).any (HE.out.below (hbw.trans (hb.mono hbw.size))) (HAT.out k hlt))
    have HOWN := Lib.hid hown
    have HBLK := Lib.hid hown.blk
    have HBW := Lib.hid hbw
    have HTK : Hid ((l.take (k + 1)).map (fun x => (readC x).1) = (l.take k).map (fun x => (readC x).1) ++ [(readC l[k]).1]) := by
      unfold Hid
      rw [List.take_succ_eq_append_getElem hlt, List.map_append]
      rfl
    have HKL : Hid (((l.take k).map (fun x => (readC x).1)).length < 100000000000) := by
      unfold Hid
      rw [List.length_map, List.length_take]
      omega
    have HER := Lib.hid (fun h => HR.out.trans (reads_err l k hlt (fun i hi => HZ.out i (by omega) hi) h))
    clear hat hrd hown hbw hsm
    generalize hcx : lc k = cx at *
    generalize hrc : readC l[k] = rc at *
    have HRK := Lib.hid hrc
    clear hcx hrc
    go_upto_region 9 with (first
      | refine wpl_load rfl rfl stV rfl (cells_len _) HAT1.out ?_
      | (refine wpl_new rfl rfl stV rfl (cs := VC.cells cx) rfl (cells_len _) HONE.out rfl rfl rfl ?_; generalize hW5 : World.alloc wr _ = w5; obtain ⟨hd5, _, hz5, hb5⟩ := alloc_of hW5; have HD5 := Lib.hid hd5; have HZ5 := Lib.hid (Nat.le_of_eq hz5.symm); have HB5 := Lib.hid hb5; clear hW5 hd5 hz5 hb5))
    go_wp2_with (refine wpl_load rfl rfl stV rfl (cells_len _) (rowV HD5.out) ?_)
    refine (HRC.out _ HB5.out).mono ?_
    rintro e w6 ⟨c6, rfl, hone6, hrd6, hb6⟩
    obtain ⟨rx, rn⟩ := rc
    dsimp only at hrd6 HER HTK ⊢
    have HB6 := Lib.hid (HB5.out.trans (hb6.mono HB5.out.size))
    have HRD6 := Lib.hid hrd6
    have HONE6 := Lib.hid hone6
    have HZ6 : Hid (wr.heap.size ≤ w5.heap.size) := HB5.out.size
    clear hb6 hrd6 hone6 HRC HAT1 HD5 HZ5 HB5 HONE
    by_cases hz : rn = 0
    case neg =>
      have HF := Lib.hid (HER.out hz)
      have hq : ((rn : Int) != 0) = true := by rw [bne_iff_ne]; omega
      clear hz HER HR HZ HAT HE HRD HCE HSM HRK HRD6 HTK
      go_wp2_with (refine wpl_new rfl rfl stC rfl (cs := CC.cells c6) rfl (ccells_len _) HONE6.out rfl rfl rfl ?_; generalize hW5 : World.alloc w6 _ = w7; obtain ⟨hd7, -, hz7, hb7⟩ := alloc_of hW5; have HD7 := Lib.hid hd7; have HB7 := Lib.hid (HB6.out.trans (hb7.mono HB6.out.size)); have HS7 := Lib.hid hb7; clear hW5 hd7 hz7 hb7)
      go_ret2
      exact ⟨_, by rw [HF.out]; rfl, by rw [HF.out]; exact nil_rdl _, HBW.out.trans (HB7.out.mono HBW.out.size)⟩
    subst hz
    have HCX : Hid (RdC w6 (fun b => w.heap.size ≤ b ∧ some b ≠ u4.ownBlock) c6 rx) := by
      refine stbC.mono (HRD6.out rfl) (fun b hb => ?_)
      have h1 := HZ6.out
      have h2 := HBW.out.size
      exact ⟨by omega, fun h => by have := HBLK.out b h.symm; omega⟩
    have HZ' : Hid (∀ i (hi : i < l.length), i < k + 1 → (readC l[i]).2 = 0) := by
      intro i hi hik
      by_cases h : i = k
      · subst h
        rw [HRK.out]
      · exact HZ.out i hi (by omega)
    clear HER HR HZ HAT HE HRD HCE HSM HRK HRD6
    go_wp2_with (first
      | (at_builtin; obtain ⟨cs, hcl, hrow, hrds⟩ := HOWN.out.below stbC HB7.out; refine wp_push2 elemC rfl _ _ rfl hrow (CC.cells c6) (ccells_len _) HONE6.out rfl rfl HKL.out (Nat.le_trans HBW.out.size HB7.out.size) ?_; intro v9 w9 hn9 hg9 hb9 hf9; have HP9 := Lib.hid (OwnT.push stbC hcl hrds (HCX.out.stays HS7.out) hn9 hg9 hf9); have HB9 := Lib.hid ((HBW.out.trans (HB7.out.mono HBW.out.size)).trans hb9); clear hcl hrow hrds hn9 hg9 hb9 hf9)
      | (refine wpl_slice rfl rfl elemC rfl (cs := CC.cells c6) rfl (ccells_len _) (by decide) ?_)
      | refine wpl_load rfl rfl stC rfl (ccells_len _) (rowC HD7.out).2.1 ?_
      | (refine wpl_new rfl rfl stC rfl (cs := CC.cells c6) rfl (ccells_len _) HONE6.out rfl rfl rfl ?_; generalize hW5 : World.alloc w6 _ = w7; obtain ⟨hd7, -, hz7, hb7⟩ := alloc_of hW5; have HD7 := Lib.hid hd7; have HB7 := Lib.hid (HB6.out.trans (hb7.mono HB6.out.size)); have HS7 := Lib.hid hb7; clear hW5 hd7 hz7 hb7))
    exact ⟨⟨k + 1, by omega, by go_num, by rw [HTK.out]; exact HP9.out, HB9.out, HZ'.out⟩, by simp [intOf]; omega⟩
end Go.Proofs.YthdninnjjmhpfaaGreatDoor

namespace Go.Proofs.YthdninnjjmhpfaaGreatDoor
open Go.RowKit Go.Shelf
set_option maxHeartbeats 1000000
set_option maxRecDepth 100000

def digZ (n : Nat) : List UInt8 := if n = 0 then [] else Lib.decDigits n
theorem digZ_step (n : Nat) (h : 0 < n) : digZ n = digZ (n / 10) ++ [UInt8.ofNat (48 + n % 10)] := by
  unfold digZ
  rw [if_neg (by omega), Lib.decDigits]
  split
  · rename_i h10
    rw [if_pos (by omega), Nat.mod_eq_of_lt h10]
    rfl
  · rename_i h10
    rw [if_neg (by omega)]
theorem digZ_len (n : Nat) (h : n ≤ 65536) : (digZ n).length ≤ 5 := by
  unfold digZ
  split
  · simp
  · exact decDigits_len n h
theorem FromInt_any (n : Nat) (hn : n ≤ 65536) (w : World) :
    Calls Tryz.prog 155 #[.int .i64 n] w fun e w' => e = .returned (.string ⟨(digZ n).toArray⟩) ∧ Below w.heap.size w w' := by
  have hnl := digZ_len n hn
  go_enter Tryz.func155, Tryz.ntmps155
  go_wp2_with fail
  go_loopw [0, 3] (fun m t wr => ∃ (k : Nat) (acc : ByteArray), k ≤ 65536 ∧ m = .int .i64 k ∧ t = .string acc ∧ Hid (digZ n = digZ k ++ L acc) ∧ Below w.heap.size w wr) (fun m _ _ => (intOf m).toNat)
  case atStart => exact ⟨n, ⟨#[]⟩, hn, rfl, rfl, by unfold Hid; simp [L], Below.refl _ _⟩
  case round =>
    obtain ⟨k, acc, hk, rfl, rfl, HD, hbw⟩ := hrel
    have hz := hbw.size
    by_cases h0 : k = 0
    · have HF : Hid (digZ n = L acc) := by unfold Hid; rw [HD.out, h0]; rfl
      have hk0 : ¬ (0 : Int) < k := by omega
      clear HD h0
      go_wp2_with fail
      go_ret
      exact ⟨by rw [HF.out]; rfl, hbw⟩
    · have hk0 : (0 : Int) < k := by omega
      have has : acc.size ≤ 5 := by
        have h := congrArg List.length HD.out
        rw [List.length_append, L_len] at h
        omega
      have hcv := conv1 wr (48 + (k : Int) % 10)
      have hbt : (48 + (k : Int) % 10).toNat = 48 + k % 10 := by omega
      have HF : Hid (digZ n = digZ (k / 10) ++ L (⟨#[48 + UInt8.ofNat (k % 10)]⟩ ++ acc)) := by
        unfold Hid
        rw [HD.out, digZ_step k (by omega), L_append]
        simp [L]
      have m0 : 0 ≤ (k : Int) % 10 := by omega
      have m1 : (k : Int) % 10 < 10 := by omega
      have hkd : ((k : Int) / 10) = ((k / 10 : Nat) : Int) := by omega
      have HKD := Lib.hid hkd
      clear HD h0 hbt hkd
      go_wp2_with fail
      refine ⟨⟨k / 10, _, by omega, by rw [HKD.out], rfl, HF, hbw.alloc hz _⟩, by simp [intOf]; omega⟩
theorem Number_any (n : Int) (h0 : 0 ≤ n) (h1 : n ≤ 65536) (w : World) :
    Calls Tryz.prog 152 #[.int .i64 n] w fun e w' => e = .returned (.string ⟨(Lib.itoa n).toArray⟩) ∧ Below w.heap.size w w' := by
  obtain ⟨k, rfl⟩ : ∃ k : Nat, n = (k : Int) := ⟨n.toNat, by omega⟩
  have hi : Lib.itoa (k : Int) = Lib.decDigits k := by unfold Lib.itoa; rw [if_neg (by omega)]; simp
  by_cases hk : k = 0
  · have HF : Hid (Lib.itoa (k : Int) = [48]) := by unfold Hid; rw [hi, hk, Lib.decDigits]; rfl
    have e0 : ((k : Int) == 0) = true := by rw [beq_iff_eq]; omega
    clear hi hk
    go_enter Tryz.func152, Tryz.ntmps152
    go_wp2_with fail
    go_ret
    exact ⟨by rw [HF.out]; rfl, Below.refl _ _⟩
  · have HF : Hid (Lib.itoa (k : Int) = digZ k) := by unfold Hid digZ; rw [hi, if_neg hk]
    have e0 : ((k : Int) == 0) = false := by rw [beq_eq_false_iff_ne]; omega
    have HFI := Lib.hid (FromInt_any k (by omega) w)
    clear hi hk
    go_enter Tryz.func152, Tryz.ntmps152
    go_wp2_with fail
    refine HFI.out.mono ?_
    rintro e w1 ⟨rfl, hb⟩
    go_wp2_with fail
    go_ret
    exact ⟨by rw [HF.out]; rfl, hb⟩
theorem sub_hex : ∀ n : Fin 16, (⟨#[48, 49, 50, 51, 52, 53, 54, 55, 56, 57, 97, 98, 99, 100, 101, 102]⟩ : ByteArray).extract n.val (n.val + 1) = ⟨#[hx n.val]⟩ := by decide +kernel
theorem sign_any (b : UInt8) (w : World) :
    Calls Tryz.prog 154 #[.int .u8 b.toNat] w fun e w' => e = .returned (.string ⟨(sgn b).toArray⟩) ∧ Below w.heap.size w w' := by
  have hb255 : b.toNat < 256 := b.toNat_lt
  by_cases c1 : b.toNat = 34
  · have e1 : ((b.toNat : Int) == 34) = true := beqB _ _ (by omega)
    have HF : Hid (sgn b = [92, 34]) := by unfold Hid sgn; rw [if_pos c1]
    clear c1 
    go_enter Tryz.func154, Tryz.ntmps154
    go_wp2_with fail
    go_ret
    exact ⟨by rw [HF.out]; rfl, Below.refl _ _⟩
  have e1 : ((b.toNat : Int) == 34) = false := beqNB _ _ (by omega)
  by_cases c2 : b.toNat = 92
  · have e2 : ((b.toNat : Int) == 92) = true := beqB _ _ (by omega)
    have HF : Hid (sgn b = [92, 92]) := by unfold Hid sgn; rw [if_neg c1, if_pos c2]
    clear c2 c1
    go_enter Tryz.func154, Tryz.ntmps154
    go_wp2_with fail
    go_ret
    exact ⟨by rw [HF.out]; rfl, Below.refl _ _⟩
  have e2 : ((b.toNat : Int) == 92) = false := beqNB _ _ (by omega)
  by_cases c3 : b.toNat = 10
  · have e3 : ((b.toNat : Int) == 10) = true := beqB _ _ (by omega)
    have HF : Hid (sgn b = [92, 110]) := by unfold Hid sgn; rw [if_neg c1, if_neg c2, if_pos c3]
    clear c3 c1 c2
    go_enter Tryz.func154, Tryz.ntmps154
    go_wp2_with fail
    go_ret
    exact ⟨by rw [HF.out]; rfl, Below.refl _ _⟩
  have e3 : ((b.toNat : Int) == 10) = false := beqNB _ _ (by omega)
  by_cases c4 : b.toNat = 9
  · have e4 : ((b.toNat : Int) == 9) = true := beqB _ _ (by omega)
    have HF : Hid (sgn b = [92, 116]) := by unfold Hid sgn; rw [if_neg c1, if_neg c2, if_neg c3, if_pos c4]
    clear c4 c1 c2 c3
    go_enter Tryz.func154, Tryz.ntmps154
    go_wp2_with fail
    go_ret
    exact ⟨by rw [HF.out]; rfl, Below.refl _ _⟩
  have e4 : ((b.toNat : Int) == 9) = false := beqNB _ _ (by omega)
  by_cases c5 : b.toNat = 13
  · have e5 : ((b.toNat : Int) == 13) = true := beqB _ _ (by omega)
    have HF : Hid (sgn b = [92, 114]) := by unfold Hid sgn; rw [if_neg c1, if_neg c2, if_neg c3, if_neg c4, if_pos c5]
    clear c5 c1 c2 c3 c4
    go_enter Tryz.func154, Tryz.ntmps154
    go_wp2_with fail
    go_ret
    exact ⟨by rw [HF.out]; rfl, Below.refl _ _⟩
  have e5 : ((b.toNat : Int) == 13) = false := beqNB _ _ (by omega)
  by_cases c6 : b.toNat = 127
  · have e6 : ((b.toNat : Int) == 127) = true := beqB _ _ (by omega)
    have HF : Hid (sgn b = [92, 117, 123, 55, 102, 125]) := by rw [u8_of c6]; rfl
    clear c1 c2 c3 c4 c5 c6
    go_enter Tryz.func154, Tryz.ntmps154
    go_wp2_with fail
    go_ret
    exact ⟨by rw [HF.out]; rfl, Below.refl _ _⟩
  have e6 : ((b.toNat : Int) == 127) = false := beqNB _ _ (by omega)
  by_cases c7 : 32 ≤ b.toNat
  · have e7 : (32 : Int) ≤ b.toNat := by omega
    have HF : Hid (sgn b = [b]) := by unfold Hid sgn; rw [if_neg c1, if_neg c2, if_neg c3, if_neg c4, if_neg c5, if_neg (by omega)]
    have hcv := conv1 w (b.toNat : Int)
    have hbb : UInt8.ofNat ((b.toNat : Int)).toNat = b := by simp
    rw [hbb] at hcv
    clear c1 c2 c3 c4 c5 c6 c7 hbb
    go_enter Tryz.func154, Tryz.ntmps154
    go_wp2_with fail
    go_ret
    exact ⟨by rw [HF.out]; rfl, (Below.refl _ w).alloc (Nat.le_refl _) _⟩
  have e7 : ¬ (32 : Int) ≤ b.toNat := by omega
  have HF : Hid (sgn b = 92 :: 117 :: 123 :: (hexT b.toNat ++ [125])) := by unfold Hid sgn; rw [if_neg c1, if_neg c2, if_neg c3, if_neg c4, if_neg c5, if_pos (by omega)]
  by_cases c8 : b.toNat < 16
  · have e8 : (b.toNat : Int) < 16 := by omega
    have HX : Hid ((⟨#[48, 49, 50, 51, 52, 53, 54, 55, 56, 57, 97, 98, 99, 100, 101, 102]⟩ : ByteArray).extract b.toNat (b.toNat + 1) = ⟨#[hx b.toNat]⟩) := sub_hex ⟨b.toNat, c8⟩
    have HT : Hid (hexT b.toNat = [hx b.toNat]) := by unfold Hid hexT; rw [if_pos c8]
    clear c1 c2 c3 c4 c5 c6 c7 c8
    go_enter Tryz.func154, Tryz.ntmps154
    go_wp2_with fail
    go_ret
    refine ⟨?_, Below.refl _ _⟩
    rw [HF.out, HT.out]
    show Ending.returned (.string (⟨#[92, 117, 123]⟩ ++ ByteArray.extract _ _ _ ++ ⟨#[125]⟩)) = _
    rw [HX.out]
    exact congrArg (fun x => Ending.returned (.string x)) (L_inj (by rw [L_append, L_append]; rfl))
  · have e8 : ¬ (b.toNat : Int) < 16 := by omega
    have HX : Hid ((⟨#[48, 49, 50, 51, 52, 53, 54, 55, 56, 57, 97, 98, 99, 100, 101, 102]⟩ : ByteArray).extract (b.toNat - 16) (b.toNat - 16 + 1) = ⟨#[hx (b.toNat - 16)]⟩) := sub_hex ⟨b.toNat - 16, by omega⟩
    have HT : Hid (hexT b.toNat = [49, hx (b.toNat - 16)]) := by
      unfold Hid hexT
      rw [if_neg c8, show b.toNat / 16 = 1 by omega, show b.toNat % 16 = b.toNat - 16 by omega]
      rfl
    have s1 : (0 : Int) ≤ (b.toNat : Int) - 16 := by omega
    clear c1 c2 c3 c4 c5 c6 c7
    go_enter Tryz.func154, Tryz.ntmps154
    go_wp2_with fail
    go_ret
    refine ⟨?_, Below.refl _ _⟩
    rw [HF.out, HT.out]
    show Ending.returned (.string (⟨#[92, 117, 123, 49]⟩ ++ ByteArray.extract _ _ _ ++ ⟨#[125]⟩)) = _
    rw [show b.toNat - 15 = b.toNat - 16 + 1 by omega, HX.out]
    exact congrArg (fun x => Ending.returned (.string x)) (L_inj (by rw [L_append, L_append]; rfl))
end Go.Proofs.YthdninnjjmhpfaaGreatDoor

namespace Go.Proofs.YthdninnjjmhpfaaGreatDoor
open Go.RowKit Go.Shelf
set_option maxHeartbeats 2000000
set_option maxRecDepth 100000

theorem prefB (s T : ByteArray) (_ : T.size ≤ s.size) : ((s.extract 0 T.size).toList == T.toList) = (L T).isPrefixOf (L s) := by
  rw [toList_L, toList_L, L_upto, ← L_len T]
  cases hp : (L T).isPrefixOf (L s)
  · rw [beq_eq_false_iff_ne]
    intro he
    rw [Bool.eq_false_iff] at hp
    apply hp
    rw [List.isPrefixOf_iff_prefix, List.prefix_iff_eq_take]
    exact he.symm
  · rw [List.isPrefixOf_iff_prefix, List.prefix_iff_eq_take] at hp
    rw [← hp, beq_self_eq_true]
theorem bneQ (b : UInt8) (n : Int) (h : ¬ (b.toNat : Int) = n) : ((b.toNat : Int) != n) = true := by rw [bne_iff_ne]; exact h
theorem bneF (b : UInt8) (n : Int) (h : (b.toNat : Int) = n) : ((b.toNat : Int) != n) = false := by rw [bne_eq_false_iff_eq]; exact h
theorem sign_at (k : Nat) (hk : k < 128) (w : World) :
    Calls Tryz.prog 154 #[.int .u8 k] w fun e w' => e = .returned (.string ⟨(sgn (UInt8.ofNat k)).toArray⟩) ∧ Below w.heap.size w w' := by
  have h := sign_any (UInt8.ofNat k) w
  have hk' : (UInt8.ofNat k).toNat = k := by simp; omega
  rwa [hk'] at h
theorem unsign_any (s : ByteArray) (w : World) (hs : s.size ≤ 1000000000) :
    Calls Tryz.prog 173 #[.string s] w fun e w' => e = .returned (.tuple #[.int .u8 ((unsR (L s)).1 : Int), .int .i64 ((unsR (L s)).2 : Int)]) ∧ Below w.heap.size w w' := by
  go_enter Tryz.func173, Tryz.ntmps173
  go_wp2_with fail
  go_loopw [4, 5] (fun b _ wr => ∃ k : Nat, k ≤ 128 ∧ b = .int .i64 k ∧ Hid (∀ m, m < k → unsP (L s) m = false) ∧ Below w.heap.size w wr) (fun b _ _ => 128 - (intOf b).toNat)
  case atStart => exact ⟨0, by omega, rfl, by unfold Hid; intro m h; omega, Below.refl _ _⟩
  case round =>
    obtain ⟨k, hk, rfl, HN, hbw⟩ := hrel
    have hz := hbw.size
    by_cases hk2 : k < 128
    case neg =>
      have hnone : (List.range 128).find? (unsP (L s)) = none := by
        rw [List.find?_eq_none]
        intro n hn
        rw [HN.out n (by have := List.mem_range.1 hn; omega)]
        simp
      have HU : Hid (unsR (L s) = match L s with
        | b :: _ => if b.toNat ≠ 34 ∧ b.toNat ≠ 92 then (b.toNat, 1) else (0, 0)
        | [] => (0, 0)) := by unfold Hid unsR; rw [hnone]; rfl
      clear hnone HN
      by_cases h0 : s.size = 0
      · have e0 : s.toList.isEmpty = true := neE.2 h0
        have HF : Hid (unsR (L s) = (0, 0)) := by
          have : L s = [] := List.length_eq_zero_iff.1 (by rw [L_len]; exact h0)
          unfold Hid; rw [HU.out, this]
        have h0' : ¬ (0 : Int) < (s.size : Int) := by omega
        clear h0 HU
        go_wp2_with fail
        all_goals first
          | omega
          | (go_ret2; exact ⟨ret2_esc (by rw [HF.out]; rfl) (by rw [HF.out]; rfl), hbw⟩)
      have hp : 0 < s.size := by omega
      have e0 : s.toList.isEmpty = false := by rw [Bool.eq_false_iff, ne_eq, neE]; exact h0
      have hd := L_drop s 0 hp
      rw [List.drop_zero] at hd
      have HX : Hid (unsR (L s) = if s[0].toNat ≠ 34 ∧ s[0].toNat ≠ 92 then (s[0].toNat, 1) else (0, 0)) := by
        unfold Hid
        rw [HU.out]
        conv => lhs; rw [hd]
      clear HU hd h0
      by_cases c1 : s[0].toNat = 34
      · have e1 : ((s[0].toNat : Int) != 34) = false := bneF _ _ (by omega)
        have HF : Hid (unsR (L s) = (0, 0)) := by unfold Hid; rw [HX.out, if_neg (fun h => h.1 c1)]
        clear HX c1
        go_wp2_with fail
        all_goals (go_ret2; exact ⟨ret2_esc (by rw [HF.out]; rfl) (by rw [HF.out]; rfl), hbw⟩)
      have e1 : ((s[0].toNat : Int) != 34) = true := bneQ _ _ (by omega)
      by_cases c2 : s[0].toNat = 92
      · have e2 : ((s[0].toNat : Int) != 92) = false := bneF _ _ (by omega)
        have HF : Hid (unsR (L s) = (0, 0)) := by unfold Hid; rw [HX.out, if_neg (fun h => h.2 c2)]
        clear HX c1 c2
        go_wp2_with fail
        all_goals (go_ret2; exact ⟨ret2_esc (by rw [HF.out]; rfl) (by rw [HF.out]; rfl), hbw⟩)
      have e2 : ((s[0].toNat : Int) != 92) = true := bneQ _ _ (by omega)
      have HF : Hid (unsR (L s) = (s[0].toNat, 1)) := by unfold Hid; rw [HX.out, if_pos ⟨c1, c2⟩]
      clear HX c1 c2
      go_wp2_with fail
      all_goals (go_ret2; exact ⟨ret2_esc (by rw [HF.out]) (by rw [HF.out]; rfl), hbw⟩)
    obtain ⟨T, hT⟩ : ∃ T : ByteArray, T = ⟨(sgn (UInt8.ofNat k)).toArray⟩ := ⟨_, rfl⟩
    have hLT : L T = sgn (UInt8.ofNat k) := by rw [hT]; rfl
    have hTs : T.size ≤ 10 := by
      rw [← L_len, hLT]
      unfold sgn hexT
      repeat' split
      all_goals simp
    have hP : unsP (L s) k = (decide (1 < T.size) && (L T).isPrefixOf (L s)) := by
      unfold unsP
      rw [hLT, ← L_len T, hLT]
    have HS := Lib.hid (fun w' => sign_at k hk2 w')
    rw [← hT] at HS
    have hnext : unsP (L s) k = false → Hid (∀ m, m < k + 1 → unsP (L s) m = false) := by
      intro h m h1
      by_cases h3 : m < k
      · exact HN.out m h3
      · obtain rfl : m = k := by omega
        exact h
    have hhit : unsP (L s) k = true → Hid (unsR (L s) = (k, T.size)) := by
      intro h
      have hf : (List.range 128).find? (unsP (L s)) = some k := by
        rw [List.find?_range_eq_some]
        refine ⟨h, List.mem_range.2 hk2, ?_⟩
        intro j hj
        rw [HN.out j hj]
        rfl
      unfold Hid unsR
      rw [hf]
      simp only []
      rw [← L_len T, hLT]
    rw [hP] at hnext hhit
    clear hP hT hLT HN
    have HNX := Lib.hid hnext; clear hnext
    have HHT := Lib.hid hhit; clear hhit
    by_cases c1 : 1 < T.size
    case neg =>
      have HN2 := HNX.out (by rw [decide_eq_false c1]; rfl)
      clear HNX HHT
      go_wp2_with fail
      refine (HS.out _).mono ?_
      rintro e w1 ⟨rfl, hb1⟩
      go_wp2_with fail
      exact ⟨⟨k + 1, by omega, rfl, HN2, hbw.trans (hb1.mono hz)⟩, by simp [intOf]; omega⟩
    by_cases c2 : T.size ≤ s.size
    case neg =>
      have HN2 := HNX.out (by
        rw [Bool.and_eq_false_iff]
        right
        rw [Bool.eq_false_iff]
        intro h
        have := (List.isPrefixOf_iff_prefix.1 h).length_le
        rw [L_len, L_len] at this
        exact c2 this)
      clear HNX HHT
      go_wp2_with fail
      refine (HS.out _).mono ?_
      rintro e w1 ⟨rfl, hb1⟩
      go_wp2_with fail
      exact ⟨⟨k + 1, by omega, rfl, HN2, hbw.trans (hb1.mono hz)⟩, by simp [intOf]; omega⟩
    rw [decide_eq_true c1, Bool.true_and, ← prefB s T c2] at HNX HHT
    cases hB : ((s.extract 0 T.size).toList == T.toList) with
    | false =>
      have HN2 := HNX.out hB
      clear HNX HHT
      go_wp2_with fail
      refine (HS.out _).mono ?_
      rintro e w1 ⟨rfl, hb1⟩
      go_wp2_with fail
      exact ⟨⟨k + 1, by omega, rfl, HN2, hbw.trans (hb1.mono hz)⟩, by simp [intOf]; omega⟩
    | true =>
      have HF := HHT.out hB
      clear HNX HHT
      go_wp2_with fail
      refine (HS.out _).mono ?_
      rintro e w1 ⟨rfl, hb1⟩
      go_wp2_with fail
      go_ret2
      exact ⟨ret2_esc (by rw [HF.out]) (by rw [HF.out]), hbw.trans (hb1.mono hz)⟩
theorem unsR_lt (l : List UInt8) : (unsR l).1 < 256 ∧ (unsR l).2 ≤ l.length := by
  unfold unsR
  split
  · rename_i n h
    have h1 := List.mem_range.1 (List.mem_of_find?_eq_some h)
    have h2 := List.find?_some h
    unfold unsP at h2
    simp only [Bool.and_eq_true, List.isPrefixOf_iff_prefix] at h2
    exact ⟨by omega, h2.2.length_le⟩
  · split
    · split
      · exact ⟨UInt8.toNat_lt _, by simp⟩
      · exact ⟨by decide, by simp⟩
    · exact ⟨by decide, by simp⟩
theorem quoF_fuel : ∀ (f g : Nat) (l : List UInt8), l.length < f → l.length < g → quoF f l = quoF g l
  | 0, _, _, h, _ => absurd h (Nat.not_lt_zero _)
  | _ + 1, 0, _, _, h => absurd h (Nat.not_lt_zero _)
  | f + 1, g + 1, [], _, _ => rfl
  | f + 1, g + 1, b :: t, h1, h2 => by
    simp only [List.length_cons] at h1 h2
    rw [quoF_cons, quoF_cons]
    split
    · rfl
    split
    · rfl
    · rename_i h3
      rw [quoF_fuel f g ((b :: t).drop (unsR (b :: t)).2) (by rw [List.length_drop, List.length_cons]; omega) (by rw [List.length_drop, List.length_cons]; omega)]
def quoT (s : ByteArray) : Option (List UInt8 × Nat) := (quoF s.size ((L s).drop 1)).map fun r => (r.1, r.2 + 1)
theorem quoted_any (s : ByteArray) (w : World) (h1 : 1 ≤ s.size) (hs : s.size ≤ 1000000000) :
    Calls Tryz.prog 139 #[.string s] w fun e w' => e = .returned (unqV (quoT s)) ∧ Below w.heap.size w w' := by
  have hst : quoT s = (quoF (s.size - 1 + 1) ((L s).drop 1)).map fun r => ([] ++ r.1, r.2 + 1) := by unfold quoT; rw [Nat.sub_add_cancel h1]; rfl
  have HST := Lib.hid hst; clear hst
  go_enter Tryz.func139, Tryz.ntmps139
  go_wp2_with fail
  go_loopw [4, 5, 6, 7] (fun o i _ _ wr => ∃ (k : Nat) (acc : List UInt8), 1 ≤ k ∧ k ≤ s.size ∧ i = .int .i64 k ∧ acc.length ≤ k ∧ wr.ownsRow w.heap.size 5 1 o acc.length (acc.map bv) ∧ Hid (quoT s = (quoF (s.size - k + 1) ((L s).drop k)).map fun r => (acc ++ r.1, r.2 + k)) ∧ Below w.heap.size w wr) (fun _ i _ _ _ => s.size - (intOf i).toNat)
  case atStart => exact ⟨1, [], Nat.le_refl _, h1, rfl, Nat.zero_le _, World.ownsRow_nil _ _ _ _, HST.out, Below.refl _ _⟩
  case round =>
    clear HST
    obtain ⟨k, acc, hk1, hk, rfl, hal, hown, HR, hbw⟩ := hrel
    have hz := hbw.size
    by_cases hlt : k < s.size
    case neg =>
      have HF : Hid (unqV (quoT s) = .tuple #[.string ⟨#[]⟩, .int .i64 0]) := by
        unfold Hid
        rw [HR.out, L_drop_nil s k (by omega)]
        rfl
      clear HR
      go_wp2_with fail
      go_ret2
      exact ⟨by rw [HF.out]; rfl, hbw⟩
    have hd := L_drop s k hlt
    have HD : Hid (quoT s = (if s[k].toNat = 34 then some ([], 1) else if (unsR ((L s).drop k)).2 = 0 then none else (quoF (s.size - k) (((L s).drop k).drop (unsR ((L s).drop k)).2)).map fun r => (UInt8.ofNat (unsR ((L s).drop k)).1 :: r.1, r.2 + (unsR ((L s).drop k)).2)).map fun r => (acc ++ r.1, r.2 + k)) := by
      unfold Hid
      rw [HR.out, hd, quoF_cons]
    clear HR hd
    by_cases c1 : s[k].toNat = 34
    · have e1 : ((s[k].toNat : Int) != 34) = false := bneF _ _ (by omega)
      have HF : Hid (quoT s = some (acc, k + 1)) := by
        unfold Hid
        rw [HD.out, if_pos c1]
        simp [Nat.add_comm]
      have hcv := conv_own bytesT hown
      clear HD c1
      go_wp2_with fail
      go_ret2
      exact ⟨by rw [HF.out]; rfl, hbw⟩
    have e1 : ((s[k].toNat : Int) != 34) = true := bneQ _ _ (by omega)
    have HD2 : Hid (quoT s = (if (unsR ((L s).drop k)).2 = 0 then none else (quoF (s.size - k) (((L s).drop k).drop (unsR ((L s).drop k)).2)).map fun r => (UInt8.ofNat (unsR ((L s).drop k)).1 :: r.1, r.2 + (unsR ((L s).drop k)).2)).map fun r => (acc ++ r.1, r.2 + k)) := by unfold Hid; rw [HD.out, if_neg c1]
    have hLx : L (s.extract k s.size) = (L s).drop k := L_from s k
    have hxs : (s.extract k s.size).size ≤ s.size := by rw [ByteArray.size_extract]; omega
    have hlt2 := unsR_lt ((L s).drop k)
    rw [List.length_drop, L_len] at hlt2
    have HC := Lib.hid (fun w' => unsign_any (s.extract k s.size) w' (by omega))
    rw [hLx] at HC
    clear HD c1 hLx
    generalize hcc : (unsR ((L s).drop k)).1 = c at *
    generalize hnn : (unsR ((L s).drop k)).2 = n at *
    clear hcc hnn
    obtain ⟨hc256, hnl⟩ := hlt2
    go_wp2_with fail
    refine (HC.out _).mono ?_
    rintro e w1 ⟨rfl, hb1⟩
    have hown1 := own_below hown hb1
    have hbw1 := hbw.trans (hb1.mono hz)
    have hz1 := hbw1.size
    clear hown hb1 HC
    by_cases hn : n = 0
    · have hn0 : ((n : Int) == 0) = true := beq_iff_eq.2 (by omega)
      have HF : Hid (unqV (quoT s) = .tuple #[.string ⟨#[]⟩, .int .i64 0]) := by unfold Hid; rw [HD2.out, if_pos hn]; rfl
      clear HD2 hn
      go_wp2_with fail
      go_ret2
      exact ⟨by rw [HF.out]; rfl, hbw1⟩
    · have hn0 : ((n : Int) == 0) = false := beq_eq_false_iff_ne.2 (by omega)
      have HF : Hid (quoT s = (quoF (s.size - (k + n) + 1) ((L s).drop (k + n))).map fun r => ((acc ++ [UInt8.ofNat c]) ++ r.1, r.2 + (k + n))) := by
        unfold Hid
        rw [HD2.out, if_neg hn, List.drop_drop, quoF_fuel (s.size - k) (s.size - (k + n) + 1) _ (by rw [List.length_drop, L_len]; omega) (by rw [List.length_drop, L_len]; omega), Option.map_map]
        congr 1
        funext r
        simp only [Function.comp, List.append_assoc, List.cons_append, List.nil_append, Prod.mk.injEq, true_and]
        omega
      have hcn : (UInt8.ofNat c).toNat = c := by simp; omega
      have hcv : (c : Int) = ((UInt8.ofNat c).toNat : Int) := by rw [hcn]
      have HCN := Lib.hid hcv
      have hn1 : 1 ≤ n := by omega
      clear HD2 hn hcn hcv
      go_wp2_with (at_builtin; refine wp_pushM bytesT rfl _ _ rfl hown1 [UInt8.ofNat c] [.int .u8 (c : Int)] (by rw [HCN.out]; rfl) 1 rfl rfl _ rfl rfl (by omega) hz1 ?_; intro v' w2 hown2 hg2 hb2)
      exact ⟨⟨k + n, acc ++ [UInt8.ofNat c], by omega, by omega, by congr 1, by simp; omega, by rw [List.length_append]; exact hown2, HF, hbw1.trans hb2⟩, by simp [intOf]; omega⟩
end Go.Proofs.YthdninnjjmhpfaaGreatDoor
