/- path.escape, unquote walked. Conditions: strings of at most 10^9 bytes; the variables of strconv read as laid. -/
import Derived.Test.YtjbhjnelepbkcaaDoorPs4
import Derived.Test.YtjbhjnelepbkcaaDoorPs3
namespace Go.Proofs.YtjbhjnelepbkcaaDoor
open Go.RowKit Go.Shelf
set_option maxHeartbeats 1000000
set_option maxRecDepth 100000

theorem hexd1_lt : ∀ b : UInt8, ∀ d, hexd1 b = some d → d < 16 := by
  intro b d h
  unfold hexd1 at h
  repeat' split at h
  all_goals first | (simp only [Option.some.injEq] at h; omega) | cases h
theorem hexs_lt (l : List UInt8) (d : Nat) (h : hexs l = some d) : d < 256 := by
  unfold hexs at h
  split at h
  · have := hexd1_lt _ _ h; omega
  · split at h
    · split at h
      · rename_i _ _ h1 _ _ h2
        have := hexd1_lt _ _ h1
        have := hexd1_lt _ _ h2
        simp only [Option.some.injEq] at h
        omega
      · cases h
    · cases h
  · cases h
theorem escI_lt (l : List UInt8) : (escI l).1 < 256 ∧ (escI l).2 ≤ l.length := by
  rcases l with _ | ⟨b, t⟩
  · exact ⟨by decide, Nat.le_refl _⟩
  rw [escI_cons]
  have := b.toNat_lt
  split
  · exact ⟨by omega, by simp⟩
  split
  · exact ⟨by decide, by simp⟩
  split
  · exact ⟨by decide, by simp⟩
  split
  · exact ⟨by decide, by simp⟩
  split
  · unfold ues
    split
    · rename_i c hc
      split at hc
      · rename_i h1
        have h2 := h1.2
        rw [List.getElem?_eq_some_iff] at h2
        obtain ⟨h2, _⟩ := h2
        exact ⟨hexs_lt _ _ hc, by simp only [List.length_cons]; omega⟩
      · cases hc
    · split
      · rename_i c hc
        split at hc
        · rename_i h1
          have h2 := h1.2
          rw [List.getElem?_eq_some_iff] at h2
          obtain ⟨h2, _⟩ := h2
          exact ⟨hexs_lt _ _ hc, by simp only [List.length_cons]; omega⟩
        · cases hc
      · exact ⟨by decide, by simp⟩
  · exact ⟨by decide, by simp⟩

/-- One look of the loop: at n = 3 and n = 4. -/
def uesAt (s : ByteArray) (n : Nat) : Option Nat := if (L s)[1]? = some 123 ∧ (L s)[n]? = some 125 then hexs (((L s).drop 2).take (n - 2)) else none
theorem ues_eq (s : ByteArray) (t : List UInt8) (b : UInt8) (h : L s = b :: t) : ues t = match uesAt s 3 with
    | some c => (c, 4)
    | none => match uesAt s 4 with
      | some c => (c, 5)
      | none => (0, 0) := by
  unfold ues uesAt
  rw [h]
  simp
  rfl
theorem hexF_hexs (l : List UInt8) (h1 : 1 ≤ l.length) (h2 : l.length ≤ 2) : hexF 0 l = hexs l := by
  rcases l with _ | ⟨a, _ | ⟨b, _ | ⟨c, l⟩⟩⟩
  · simp at h1
  · exact hexF_one a
  · exact hexF_two a b
  · simp at h2
theorem ret2_esc {a b : Int} {p : Nat × Nat} (h1 : a = p.1) (h2 : b = p.2) : Ending.returned (.tuple #[.int .u8 a, .int .i64 b]) = Ending.returned (.tuple #[.int .u8 p.1, .int .i64 p.2]) := by rw [h1, h2]
theorem L_at (s : ByteArray) (i : Nat) : (L s)[i]? = if h : i < s.size then some s[i] else none := by
  split
  · rename_i h
    rw [List.getElem?_eq_getElem (by rw [L_len]; exact h), L_get s i h]
  · rename_i h
    rw [List.getElem?_eq_none (by rw [L_len]; omega)]
theorem escape_any (s : ByteArray) (w : World) (hs : s.size ≤ 1000000000) (he : Env w) :
    Calls Tryd.prog 49 #[.string s] w fun e w' => e = .returned (.tuple #[.int .u8 ((escI (L s)).1 : Int), .int .i64 ((escI (L s)).2 : Int)]) ∧ Below w.heap.size w w' := by
  by_cases h0 : s.size = 0
  · have e0 : s.toList.isEmpty = true := neE.2 h0
    have HF : Hid (escI (L s) = (0, 0)) := by
      have : L s = [] := List.length_eq_zero_iff.1 (by rw [L_len]; exact h0)
      unfold Hid; rw [this]; rfl
    clear h0 he
    go_enter Tryd.func49, Tryd.ntmps49
    go_wp2_with fail
    go_ret2
    exact ⟨ret2_esc (by rw [HF.out]; rfl) (by rw [HF.out]; rfl), Below.refl _ _⟩
  have hp : 0 < s.size := by omega
  have e0 : s.toList.isEmpty = false := by rw [Bool.eq_false_iff, ne_eq, neE]; exact h0
  have hd := L_drop s 0 hp
  rw [List.drop_zero] at hd
  have HX : Hid (escI (L s) = if s[0].toNat = 34 ∨ s[0].toNat = 92 then (s[0].toNat, 1) else if s[0].toNat = 110 then (10, 1) else if s[0].toNat = 116 then (9, 1) else if s[0].toNat = 114 then (13, 1) else if s[0].toNat = 117 then ues ((L s).drop 1) else (0, 0)) := by
    unfold Hid
    conv => lhs; rw [hd]
    rw [escI_cons]
  have HU := Lib.hid (ues_eq s _ _ hd)
  have HE := Lib.hid he
  clear h0 he hd
  by_cases c1 : s[0].toNat = 34
  · have e1 : ((s[0].toNat : Int) == 34) = true := beqB _ _ (by omega)
    have HF : Hid (escI (L s) = (s[0].toNat, 1)) := by unfold Hid; rw [HX.out, if_pos (.inl c1)]
    clear HX c1 HU
    go_enter Tryd.func49, Tryd.ntmps49
    go_wp2_with fail
    go_ret2
    exact ⟨ret2_esc (by rw [HF.out]) (by rw [HF.out]; rfl), Below.refl _ _⟩
  have e1 : ((s[0].toNat : Int) == 34) = false := beqNB _ _ (by omega)
  by_cases c2 : s[0].toNat = 92
  · have e2 : ((s[0].toNat : Int) == 92) = true := beqB _ _ (by omega)
    have HF : Hid (escI (L s) = (s[0].toNat, 1)) := by unfold Hid; rw [HX.out, if_pos (.inr c2)]
    clear HX c1 c2 HU
    go_enter Tryd.func49, Tryd.ntmps49
    go_wp2_with fail
    go_ret2
    exact ⟨ret2_esc (by rw [HF.out]) (by rw [HF.out]; rfl), Below.refl _ _⟩
  have e2 : ((s[0].toNat : Int) == 92) = false := beqNB _ _ (by omega)
  have HX2 : Hid (escI (L s) = if s[0].toNat = 110 then (10, 1) else if s[0].toNat = 116 then (9, 1) else if s[0].toNat = 114 then (13, 1) else if s[0].toNat = 117 then ues ((L s).drop 1) else (0, 0)) := by unfold Hid; rw [HX.out, if_neg (by omega)]
  clear HX c1 c2
  by_cases c3 : s[0].toNat = 110
  · have e3 : ((s[0].toNat : Int) == 110) = true := beqB _ _ (by omega)
    have HF : Hid (escI (L s) = (10, 1)) := by unfold Hid; rw [HX2.out, if_pos c3]
    clear HX2 HU c3
    go_enter Tryd.func49, Tryd.ntmps49
    go_wp2_with fail
    go_ret2
    exact ⟨ret2_esc (by rw [HF.out]; rfl) (by rw [HF.out]; rfl), Below.refl _ _⟩
  have e3 : ((s[0].toNat : Int) == 110) = false := beqNB _ _ (by omega)
  by_cases c4 : s[0].toNat = 116
  · have e4 : ((s[0].toNat : Int) == 116) = true := beqB _ _ (by omega)
    have HF : Hid (escI (L s) = (9, 1)) := by unfold Hid; rw [HX2.out, if_neg c3, if_pos c4]
    clear HX2 HU c3 c4
    go_enter Tryd.func49, Tryd.ntmps49
    go_wp2_with fail
    go_ret2
    exact ⟨ret2_esc (by rw [HF.out]; rfl) (by rw [HF.out]; rfl), Below.refl _ _⟩
  have e4 : ((s[0].toNat : Int) == 116) = false := beqNB _ _ (by omega)
  by_cases c5 : s[0].toNat = 114
  · have e5 : ((s[0].toNat : Int) == 114) = true := beqB _ _ (by omega)
    have HF : Hid (escI (L s) = (13, 1)) := by unfold Hid; rw [HX2.out, if_neg c3, if_neg c4, if_pos c5]
    clear HX2 HU c3 c4 c5
    go_enter Tryd.func49, Tryd.ntmps49
    go_wp2_with fail
    go_ret2
    exact ⟨ret2_esc (by rw [HF.out]; rfl) (by rw [HF.out]; rfl), Below.refl _ _⟩
  have e5 : ((s[0].toNat : Int) == 114) = false := beqNB _ _ (by omega)
  by_cases c6 : s[0].toNat = 117
  case neg =>
    have e6 : ((s[0].toNat : Int) == 117) = false := beqNB _ _ (by omega)
    have HF : Hid (escI (L s) = (0, 0)) := by unfold Hid; rw [HX2.out, if_neg c3, if_neg c4, if_neg c5, if_neg c6]
    clear HX2 HU c3 c4 c5 c6
    go_enter Tryd.func49, Tryd.ntmps49
    go_wp2_with fail
    go_ret2
    exact ⟨ret2_esc (by rw [HF.out]; rfl) (by rw [HF.out]; rfl), Below.refl _ _⟩
  have e6 : ((s[0].toNat : Int) == 117) = true := beqB _ _ (by omega)
  have HX3 : Hid (escI (L s) = match uesAt s 3 with
    | some c => (c, 4)
    | none => match uesAt s 4 with
      | some c => (c, 5)
      | none => (0, 0)) := by unfold Hid; rw [HX2.out, if_neg c3, if_neg c4, if_neg c5, if_pos c6, HU.out]
  clear HX2 HU c3 c4 c5 c6
  go_enter Tryd.func49, Tryd.ntmps49
  go_wp2_with fail
  go_loopw [4, 5, 6] (fun n _ _ wr => ∃ k : Nat, 3 ≤ k ∧ k ≤ 5 ∧ n = .int .i64 k ∧ Hid (∀ m, 3 ≤ m → m < k → uesAt s m = none) ∧ Below w.heap.size w wr) (fun n _ _ _ => 5 - (intOf n).toNat)
  case atStart => exact ⟨3, by omega, by omega, rfl, by unfold Hid; intro m h1 h2; omega, Below.refl _ _⟩
  case round =>
    obtain ⟨k, hk3, hk5, rfl, HN, hbw⟩ := hrel
    have hz := hbw.size
    by_cases hin : k ≤ 4 ∧ k < s.size
    case neg =>
      have hnone : ∀ m, 3 ≤ m → m ≤ 4 → uesAt s m = none := by
        intro m h1 h2
        by_cases h3 : m < k
        · exact HN.out m h1 h3
        · unfold uesAt
          rw [L_at s m, dif_neg (by omega)]
          simp
      have HF : Hid (escI (L s) = (0, 0)) := by unfold Hid; rw [HX3.out, hnone 3 (by omega) (by omega), hnone 4 (by omega) (by omega)]
      clear HX3 HN hnone
      go_wp2_with fail
      all_goals first
        | omega
        | (go_ret2; exact ⟨ret2_esc (by rw [HF.out]; rfl) (by rw [HF.out]; rfl), hbw⟩)
    obtain ⟨hk4, hks⟩ := hin
    have h1s : 1 < s.size := by omega
    have hnext : uesAt s k = none → Hid (∀ m, 3 ≤ m → m < k + 1 → uesAt s m = none) := by
      intro h m h1 h2
      by_cases h3 : m < k
      · exact HN.out m h1 h3
      · obtain rfl : m = k := by omega
        exact h
    have hhit : ∀ c, uesAt s k = some c → Hid (escI (L s) = (c, k + 1)) := by
      intro c h
      unfold Hid
      rw [HX3.out]
      rcases (by omega : k = 3 ∨ k = 4) with rfl | rfl
      · rw [h]
      · rw [HN.out 3 (by omega) (by omega), h]
    have HNX := Lib.hid hnext; clear hnext
    have HHT := Lib.hid hhit; clear hhit HN
    by_cases d1 : s[1].toNat = 123
    case neg =>
      have f1 : ((s[1].toNat : Int) == 123) = false := beqNB _ _ (by omega)
      have HN2 := HNX.out (by unfold uesAt; rw [L_at s 1, dif_pos h1s, if_neg]; rintro ⟨h, _⟩; simp only [Option.some.injEq] at h; rw [h] at d1; exact d1 (by decide))
      clear HNX HHT HX3 d1
      go_wp2_with fail
      exact ⟨⟨k + 1, by omega, by omega, rfl, HN2, hbw⟩, by simp [intOf]; omega⟩
    have f1 : ((s[1].toNat : Int) == 123) = true := beqB _ _ (by omega)
    by_cases d2 : s[k].toNat = 125
    case neg =>
      have f2 : ((s[k].toNat : Int) == 125) = false := beqNB _ _ (by omega)
      have HN2 := HNX.out (by unfold uesAt; rw [L_at s k, dif_pos hks, if_neg]; rintro ⟨_, h⟩; simp only [Option.some.injEq] at h; rw [h] at d2; exact d2 (by decide))
      clear HNX HHT HX3 d1 d2
      go_wp2_with fail
      exact ⟨⟨k + 1, by omega, by omega, rfl, HN2, hbw⟩, by simp [intOf]; omega⟩
    have f2 : ((s[k].toNat : Int) == 125) = true := beqB _ _ (by omega)
    have hLx : L (s.extract 2 k) = ((L s).drop 2).take (k - 2) := L_extract s 2 k
    have hxs : (s.extract 2 k).size = k - 2 := by rw [ByteArray.size_extract]; omega
    have hU : uesAt s k = hexF 0 (L (s.extract 2 k)) := by
      rw [hexF_hexs _ (by rw [L_len]; omega) (by rw [L_len]; omega), hLx]
      unfold uesAt
      rw [L_at s 1, dif_pos h1s, L_at s k, dif_pos hks, if_pos]
      exact ⟨congrArg some (by rw [u8_of d1]; rfl), congrArg some (by rw [u8_of d2]; rfl)⟩
    have hlt256 : ∀ c, hexF 0 (L (s.extract 2 k)) = some c → c < 256 := by
      intro c h
      rw [hexF_hexs _ (by rw [L_len]; omega) (by rw [L_len]; omega)] at h
      exact hexs_lt _ _ h
    rw [hU] at HNX HHT
    have HP1 := Lib.hid (ParseUint_ok (s.extract 2 k) (by omega) (by omega))
    have HP2 := Lib.hid (ParseUint_no (s.extract 2 k) (by omega) (by omega))
    have HEW := Lib.hid (HE.out.below hbw)
    clear HX3 d1 d2 hLx hxs hU
    generalize hexF 0 (L (s.extract 2 k)) = r at *
    cases r with
    | none =>
      have HN2 := HNX.out rfl
      have HP := Lib.hid (HP2.out rfl)
      clear HNX HHT hlt256 HP1 HP2
      go_wp2_with fail
      refine (HP.out _ HEW.out).mono ?_
      rintro e w1 ⟨⟨N, rfl⟩, hb1⟩
      go_wp2_with fail
      exact ⟨⟨k + 1, by omega, by omega, rfl, HN2, hbw.trans (hb1.mono hz)⟩, by simp [intOf]; omega⟩
    | some c =>
      have HF := HHT.out c rfl
      have h256 := hlt256 c rfl
      have HP := Lib.hid (HP1.out c rfl)
      clear HNX HHT hlt256 HP1 HP2
      go_wp2_with fail
      refine (HP.out _).mono ?_
      rintro e w1 ⟨rfl, hb1⟩
      go_wp2_with fail
      go_ret2
      refine ⟨ret2_esc ?_ ?_, hbw.trans (hb1.mono hz)⟩
      · rw [HF.out] <;> first | rfl | (show _ % _ = _; omega)
      · rw [HF.out]; rfl
theorem unqF_fuel : ∀ (f g : Nat) (l : List UInt8), l.length < f → l.length < g → unqF f l = unqF g l
  | 0, _, _, h, _ => absurd h (Nat.not_lt_zero _)
  | _ + 1, 0, _, _, h => absurd h (Nat.not_lt_zero _)
  | f + 1, g + 1, [], _, _ => rfl
  | f + 1, g + 1, b :: t, h1, h2 => by
    simp only [List.length_cons] at h1 h2
    rw [unqF_cons, unqF_cons, unqF_fuel f g t (by omega) (by omega), unqF_fuel f g (t.drop (escI t).2) (by rw [List.length_drop]; omega) (by rw [List.length_drop]; omega)]
def unqT (s : ByteArray) : Option (List UInt8 × Nat) := (unqF s.size ((L s).drop 1)).map fun r => (r.1, r.2 + 1)
def unqV (o : Option (List UInt8 × Nat)) : Value := match o with
  | some r => .tuple #[.string ⟨r.1.toArray⟩, .int .i64 (r.2 : Int)]
  | none => .tuple #[.string ⟨#[]⟩, .int .i64 0]
theorem unquote_any (s : ByteArray) (w : World) (h1 : 1 ≤ s.size) (hs : s.size ≤ 1000000000) (he : Env w) :
    Calls Tryd.prog 37 #[.string s] w fun e w' => e = .returned (unqV (unqT s)) ∧ Below w.heap.size w w' := by
  have HE := Lib.hid he; clear he
  have hst : unqT s = (unqF (s.size - 1 + 1) ((L s).drop 1)).map fun r => ([] ++ r.1, r.2 + 1) := by unfold unqT; rw [Nat.sub_add_cancel h1]; rfl
  have HST := Lib.hid hst; clear hst
  go_enter Tryd.func37, Tryd.ntmps37
  go_wp2_with fail
  go_loopw [4, 5, 6, 7] (fun o i _ _ wr => ∃ (k : Nat) (acc : List UInt8), 1 ≤ k ∧ k ≤ s.size ∧ i = .int .i64 k ∧ acc.length ≤ k ∧ wr.ownsRow w.heap.size 5 1 o acc.length (acc.map bv) ∧ Hid (unqT s = (unqF (s.size - k + 1) ((L s).drop k)).map fun r => (acc ++ r.1, r.2 + k)) ∧ Below w.heap.size w wr) (fun _ i _ _ _ => s.size - (intOf i).toNat)
  case atStart => exact ⟨1, [], Nat.le_refl _, h1, rfl, Nat.zero_le _, World.ownsRow_nil _ _ _ _, HST.out, Below.refl _ _⟩
  case round =>
    clear HST
    obtain ⟨k, acc, hk1, hk, rfl, hal, hown, HR, hbw⟩ := hrel
    have hz := hbw.size
    by_cases hlt : k < s.size
    case neg =>
      have HF : Hid (unqV (unqT s) = .tuple #[.string ⟨#[]⟩, .int .i64 0]) := by
        unfold Hid
        rw [HR.out, L_drop_nil s k (by omega)]
        rfl
      clear HR
      go_wp2_with fail
      go_ret2
      exact ⟨by rw [HF.out]; rfl, hbw⟩
    have hd := L_drop s k hlt
    have HD : Hid (unqT s = (if s[k].toNat = 34 then some ([], 1) else if s[k].toNat = 92 then (if (escI ((L s).drop (k + 1))).2 = 0 then none else (unqF (s.size - k) (((L s).drop (k + 1)).drop (escI ((L s).drop (k + 1))).2)).map fun r => (UInt8.ofNat (escI ((L s).drop (k + 1))).1 :: r.1, r.2 + 1 + (escI ((L s).drop (k + 1))).2)) else (unqF (s.size - k) ((L s).drop (k + 1))).map fun r => (s[k] :: r.1, r.2 + 1)).map fun r => (acc ++ r.1, r.2 + k)) := by
      unfold Hid
      rw [HR.out, hd, unqF_cons]
    clear HR hd
    by_cases c1 : s[k].toNat = 34
    · have e1 : ((s[k].toNat : Int) == 34) = true := beqB _ _ (by omega)
      have HF : Hid (unqT s = some (acc, k + 1)) := by
        unfold Hid
        rw [HD.out, if_pos c1]
        simp [Nat.add_comm]
      have hcv := conv_own bytesT hown
      clear HD c1
      go_wp2_with fail
      go_ret2
      exact ⟨by rw [HF.out]; rfl, hbw⟩
    have e1 : ((s[k].toNat : Int) == 34) = false := beqNB _ _ (by omega)
    by_cases c2 : s[k].toNat = 92
    · have e2 : ((s[k].toNat : Int) == 92) = true := beqB _ _ (by omega)
      have HD2 : Hid (unqT s = (if (escI ((L s).drop (k + 1))).2 = 0 then none else (unqF (s.size - k) (((L s).drop (k + 1)).drop (escI ((L s).drop (k + 1))).2)).map fun r => (UInt8.ofNat (escI ((L s).drop (k + 1))).1 :: r.1, r.2 + 1 + (escI ((L s).drop (k + 1))).2)).map fun r => (acc ++ r.1, r.2 + k)) := by unfold Hid; rw [HD.out, if_neg c1, if_pos c2]
      have hLx : L (s.extract (k + 1) s.size) = (L s).drop (k + 1) := L_from s (k + 1)
      have hxs : (s.extract (k + 1) s.size).size ≤ s.size := by rw [ByteArray.size_extract]; omega
      have hlt2 := escI_lt ((L s).drop (k + 1))
      rw [List.length_drop, L_len] at hlt2
      have HC := Lib.hid (fun w' => escape_any (s.extract (k + 1) s.size) w' (by omega))
      rw [hLx] at HC
      have HEW := Lib.hid (HE.out.below hbw)
      clear HD c1 c2 hLx
      generalize hcc : (escI ((L s).drop (k + 1))).1 = c at *
      generalize hnn : (escI ((L s).drop (k + 1))).2 = n at *
      clear hcc hnn
      obtain ⟨hc256, hnl⟩ := hlt2
      go_wp2_with fail
      refine (HC.out _ HEW.out).mono ?_
      rintro e w1 ⟨rfl, hb1⟩
      have hown1 := own_below hown hb1
      have hbw1 := hbw.trans (hb1.mono hz)
      have hz1 := hbw1.size
      clear hown hb1 HC
      by_cases hn : n = 0
      · have hn0 : ((n : Int) == 0) = true := beq_iff_eq.2 (by omega)
        have HF : Hid (unqV (unqT s) = .tuple #[.string ⟨#[]⟩, .int .i64 0]) := by unfold Hid; rw [HD2.out, if_pos hn]; rfl
        clear HD2 hn
        go_wp2_with fail
        go_ret2
        exact ⟨by rw [HF.out]; rfl, hbw1⟩
      · have hn0 : ((n : Int) == 0) = false := beq_eq_false_iff_ne.2 (by omega)
        have HF : Hid (unqT s = (unqF (s.size - (k + 1 + n) + 1) ((L s).drop (k + 1 + n))).map fun r => ((acc ++ [UInt8.ofNat c]) ++ r.1, r.2 + (k + 1 + n))) := by
          unfold Hid
          rw [HD2.out, if_neg hn, List.drop_drop, unqF_fuel (s.size - k) (s.size - (k + 1 + n) + 1) _ (by rw [List.length_drop, L_len]; omega) (by rw [List.length_drop, L_len]; omega), Option.map_map]
          congr 1
          funext r
          simp only [Function.comp, List.append_assoc, List.cons_append, List.nil_append, Prod.mk.injEq, true_and]
          omega
        have hcn : (UInt8.ofNat c).toNat = c := by simp; omega
        have hcv : (c : Int) = ((UInt8.ofNat c).toNat : Int) := by rw [hcn]
        have HCN := Lib.hid hcv
        clear HD2 hn hcn hcv
        go_wp2_with (at_builtin; refine wp_pushM bytesT rfl _ _ rfl hown1 [UInt8.ofNat c] [.int .u8 (c : Int)] (by rw [HCN.out]; rfl) 1 rfl rfl _ rfl rfl (by omega) hz1 ?_; intro v' w2 hown2 hg2 hb2)
        exact ⟨⟨k + 1 + n, acc ++ [UInt8.ofNat c], by omega, by omega, by congr 1; omega, by simp; omega, by rw [List.length_append]; exact hown2, HF, hbw1.trans hb2⟩, by simp [intOf]; omega⟩
    · have e2 : ((s[k].toNat : Int) == 92) = false := beqNB _ _ (by omega)
      have HF : Hid (unqT s = (unqF (s.size - (k + 1) + 1) ((L s).drop (k + 1))).map fun r => ((acc ++ [s[k]]) ++ r.1, r.2 + (k + 1))) := by
        unfold Hid
        rw [HD.out, if_neg c1, if_neg c2, show s.size - (k + 1) + 1 = s.size - k by omega, Option.map_map]
        congr 1
        funext r
        simp only [Function.comp, List.append_assoc, List.cons_append, List.nil_append, Prod.mk.injEq, true_and]
        omega
      clear HD c1 c2
      go_wp2_with (at_builtin; refine wp_pushM bytesT rfl _ _ rfl hown [s[k]] [.int .u8 (s[k].toNat : Int)] rfl 1 rfl rfl _ rfl rfl (by omega) hz ?_; intro v' w2 hown2 hg2 hb2)
      exact ⟨⟨k + 1, acc ++ [s[k]], by omega, by omega, rfl, by simp; omega, by rw [List.length_append]; exact hown2, HF, hbw.trans hb2⟩, by simp [intOf]; omega⟩
end Go.Proofs.YtjbhjnelepbkcaaDoor
