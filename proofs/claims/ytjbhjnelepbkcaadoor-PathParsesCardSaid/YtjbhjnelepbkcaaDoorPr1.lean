/- datakitref08.unsign, quoted walked. Conditions: strings of at most 10^9 bytes. -/
import Derived.Test.YtjbhjnelepbkcaaDoorRt1
import Derived.Test.YtjbhjnelepbkcaaDoorPs6
namespace Go.Proofs.YtjbhjnelepbkcaaDoor
open Go.RowKit Go.Shelf
set_option maxHeartbeats 2000000
set_option maxRecDepth 100000

theorem prefB (s T : ByteArray) (_ : T.size ≤ s.size) : ((s.extract 0 T.size).toList == T.toList) = (L T).isPrefixOf (L s) := by
  rw [toList_L, toList_L, L_upto, ← L_len T]
  cases hp : (L T).isPrefixOf (L s)
  · rw [beq_eq_false_iff_ne]
    intro he
    rw [Bool.eq_false_iff] at hp
    apply hp
    rw [List.isPrefixOf_iff_prefix, List.prefix_iff_eq_take]
    exact he.symm
  · rw [List.isPrefixOf_iff_prefix, List.prefix_iff_eq_take] at hp
    rw [← hp, beq_self_eq_true]
theorem bneQ (b : UInt8) (n : Int) (h : ¬ (b.toNat : Int) = n) : ((b.toNat : Int) != n) = true := by rw [bne_iff_ne]; exact h
theorem bneF (b : UInt8) (n : Int) (h : (b.toNat : Int) = n) : ((b.toNat : Int) != n) = false := by rw [bne_eq_false_iff_eq]; exact h
theorem sign_at (k : Nat) (hk : k < 128) (w : World) :
    Calls Tryd.prog 52 #[.int .u8 k] w fun e w' => e = .returned (.string ⟨(sgn (UInt8.ofNat k)).toArray⟩) ∧ Below w.heap.size w w' := by
  have h := sign_any (UInt8.ofNat k) w
  have hk' : (UInt8.ofNat k).toNat = k := by simp; omega
  rwa [hk'] at h
theorem unsign_any (s : ByteArray) (w : World) (hs : s.size ≤ 1000000000) :
    Calls Tryd.prog 67 #[.string s] w fun e w' => e = .returned (.tuple #[.int .u8 ((unsR (L s)).1 : Int), .int .i64 ((unsR (L s)).2 : Int)]) ∧ Below w.heap.size w w' := by
  go_enter Tryd.func67, Tryd.ntmps67
  go_wp2_with fail
  go_loopw [4, 5] (fun b _ wr => ∃ k : Nat, k ≤ 128 ∧ b = .int .i64 k ∧ Hid (∀ m, m < k → unsP (L s) m = false) ∧ Below w.heap.size w wr) (fun b _ _ => 128 - (intOf b).toNat)
  case atStart => exact ⟨0, by omega, rfl, by unfold Hid; intro m h; omega, Below.refl _ _⟩
  case round =>
    obtain ⟨k, hk, rfl, HN, hbw⟩ := hrel
    have hz := hbw.size
    by_cases hk2 : k < 128
    case neg =>
      have hnone : (List.range 128).find? (unsP (L s)) = none := by
        rw [List.find?_eq_none]
        intro n hn
        rw [HN.out n (by have := List.mem_range.1 hn; omega)]
        simp
      have HU : Hid (unsR (L s) = match L s with
        | b :: _ => if b.toNat ≠ 34 ∧ b.toNat ≠ 92 then (b.toNat, 1) else (0, 0)
        | [] => (0, 0)) := by unfold Hid unsR; rw [hnone]; rfl
      clear hnone HN
      by_cases h0 : s.size = 0
      · have e0 : s.toList.isEmpty = true := neE.2 h0
        have HF : Hid (unsR (L s) = (0, 0)) := by
          have : L s = [] := List.length_eq_zero_iff.1 (by rw [L_len]; exact h0)
          unfold Hid; rw [HU.out, this]
        have h0' : ¬ (0 : Int) < (s.size : Int) := by omega
        clear h0 HU
        go_wp2_with fail
        all_goals first
          | omega
          | (go_ret2; exact ⟨ret2_esc (by rw [HF.out]; rfl) (by rw [HF.out]; rfl), hbw⟩)
      have hp : 0 < s.size := by omega
      have e0 : s.toList.isEmpty = false := by rw [Bool.eq_false_iff, ne_eq, neE]; exact h0
      have hd := L_drop s 0 hp
      rw [List.drop_zero] at hd
      have HX : Hid (unsR (L s) = if s[0].toNat ≠ 34 ∧ s[0].toNat ≠ 92 then (s[0].toNat, 1) else (0, 0)) := by
        unfold Hid
        rw [HU.out]
        conv => lhs; rw [hd]
      clear HU hd h0
      by_cases c1 : s[0].toNat = 34
      · have e1 : ((s[0].toNat : Int) != 34) = false := bneF _ _ (by omega)
        have HF : Hid (unsR (L s) = (0, 0)) := by unfold Hid; rw [HX.out, if_neg (fun h => h.1 c1)]
        clear HX c1
        go_wp2_with fail
        all_goals (go_ret2; exact ⟨ret2_esc (by rw [HF.out]; rfl) (by rw [HF.out]; rfl), hbw⟩)
      have e1 : ((s[0].toNat : Int) != 34) = true := bneQ _ _ (by omega)
      by_cases c2 : s[0].toNat = 92
      · have e2 : ((s[0].toNat : Int) != 92) = false := bneF _ _ (by omega)
        have HF : Hid (unsR (L s) = (0, 0)) := by unfold Hid; rw [HX.out, if_neg (fun h => h.2 c2)]
        clear HX c1 c2
        go_wp2_with fail
        all_goals (go_ret2; exact ⟨ret2_esc (by rw [HF.out]; rfl) (by rw [HF.out]; rfl), hbw⟩)
      have e2 : ((s[0].toNat : Int) != 92) = true := bneQ _ _ (by omega)
      have HF : Hid (unsR (L s) = (s[0].toNat, 1)) := by unfold Hid; rw [HX.out, if_pos ⟨c1, c2⟩]
      clear HX c1 c2
      go_wp2_with fail
      all_goals (go_ret2; exact ⟨ret2_esc (by rw [HF.out]) (by rw [HF.out]; rfl), hbw⟩)
    obtain ⟨T, hT⟩ : ∃ T : ByteArray, T = ⟨(sgn (UInt8.ofNat k)).toArray⟩ := ⟨_, rfl⟩
    have hLT : L T = sgn (UInt8.ofNat k) := by rw [hT]; rfl
    have hTs : T.size ≤ 10 := by
      rw [← L_len, hLT]
      unfold sgn hexT
      repeat' split
      all_goals simp
    have hP : unsP (L s) k = (decide (1 < T.size) && (L T).isPrefixOf (L s)) := by
      unfold unsP
      rw [hLT, ← L_len T, hLT]
    have HS := Lib.hid (fun w' => sign_at k hk2 w')
    rw [← hT] at HS
    have hnext : unsP (L s) k = false → Hid (∀ m, m < k + 1 → unsP (L s) m = false) := by
      intro h m h1
      by_cases h3 : m < k
      · exact HN.out m h3
      · obtain rfl : m = k := by omega
        exact h
    have hhit : unsP (L s) k = true → Hid (unsR (L s) = (k, T.size)) := by
      intro h
      have hf : (List.range 128).find? (unsP (L s)) = some k := by
        rw [List.find?_range_eq_some]
        refine ⟨h, List.mem_range.2 hk2, ?_⟩
        intro j hj
        rw [HN.out j hj]
        rfl
      unfold Hid unsR
      rw [hf]
      simp only []
      rw [← L_len T, hLT]
    rw [hP] at hnext hhit
    clear hP hT hLT HN
    have HNX := Lib.hid hnext; clear hnext
    have HHT := Lib.hid hhit; clear hhit
    by_cases c1 : 1 < T.size
    case neg =>
      have HN2 := HNX.out (by rw [decide_eq_false c1]; rfl)
      clear HNX HHT
      go_wp2_with fail
      refine (HS.out _).mono ?_
      rintro e w1 ⟨rfl, hb1⟩
      go_wp2_with fail
      exact ⟨⟨k + 1, by omega, rfl, HN2, hbw.trans (hb1.mono hz)⟩, by simp [intOf]; omega⟩
    by_cases c2 : T.size ≤ s.size
    case neg =>
      have HN2 := HNX.out (by
        rw [Bool.and_eq_false_iff]
        right
        rw [Bool.eq_false_iff]
        intro h
        have := (List.isPrefixOf_iff_prefix.1 h).length_le
        rw [L_len, L_len] at this
        exact c2 this)
      clear HNX HHT
      go_wp2_with fail
      refine (HS.out _).mono ?_
      rintro e w1 ⟨rfl, hb1⟩
      go_wp2_with fail
      exact ⟨⟨k + 1, by omega, rfl, HN2, hbw.trans (hb1.mono hz)⟩, by simp [intOf]; omega⟩
    rw [decide_eq_true c1, Bool.true_and, ← prefB s T c2] at HNX HHT
    cases hB : ((s.extract 0 T.size).toList == T.toList) with
    | false =>
      have HN2 := HNX.out hB
      clear HNX HHT
      go_wp2_with fail
      refine (HS.out _).mono ?_
      rintro e w1 ⟨rfl, hb1⟩
      go_wp2_with fail
      exact ⟨⟨k + 1, by omega, rfl, HN2, hbw.trans (hb1.mono hz)⟩, by simp [intOf]; omega⟩
    | true =>
      have HF := HHT.out hB
      clear HNX HHT
      go_wp2_with fail
      refine (HS.out _).mono ?_
      rintro e w1 ⟨rfl, hb1⟩
      go_wp2_with fail
      go_ret2
      exact ⟨ret2_esc (by rw [HF.out]) (by rw [HF.out]), hbw.trans (hb1.mono hz)⟩
theorem unsR_lt (l : List UInt8) : (unsR l).1 < 256 ∧ (unsR l).2 ≤ l.length := by
  unfold unsR
  split
  · rename_i n h
    have h1 := List.mem_range.1 (List.mem_of_find?_eq_some h)
    have h2 := List.find?_some h
    unfold unsP at h2
    simp only [Bool.and_eq_true, List.isPrefixOf_iff_prefix] at h2
    exact ⟨by omega, h2.2.length_le⟩
  · split
    · split
      · exact ⟨UInt8.toNat_lt _, by simp⟩
      · exact ⟨by decide, by simp⟩
    · exact ⟨by decide, by simp⟩
theorem quoF_fuel : ∀ (f g : Nat) (l : List UInt8), l.length < f → l.length < g → quoF f l = quoF g l
  | 0, _, _, h, _ => absurd h (Nat.not_lt_zero _)
  | _ + 1, 0, _, _, h => absurd h (Nat.not_lt_zero _)
  | f + 1, g + 1, [], _, _ => rfl
  | f + 1, g + 1, b :: t, h1, h2 => by
    simp only [List.length_cons] at h1 h2
    rw [quoF_cons, quoF_cons]
    split
    · rfl
    split
    · rfl
    · rename_i h3
      rw [quoF_fuel f g ((b :: t).drop (unsR (b :: t)).2) (by rw [List.length_drop, List.length_cons]; omega) (by rw [List.length_drop, List.length_cons]; omega)]
def quoT (s : ByteArray) : Option (List UInt8 × Nat) := (quoF s.size ((L s).drop 1)).map fun r => (r.1, r.2 + 1)
theorem quoted_any (s : ByteArray) (w : World) (h1 : 1 ≤ s.size) (hs : s.size ≤ 1000000000) :
    Calls Tryd.prog 53 #[.string s] w fun e w' => e = .returned (unqV (quoT s)) ∧ Below w.heap.size w w' := by
  have hst : quoT s = (quoF (s.size - 1 + 1) ((L s).drop 1)).map fun r => ([] ++ r.1, r.2 + 1) := by unfold quoT; rw [Nat.sub_add_cancel h1]; rfl
  have HST := Lib.hid hst; clear hst
  go_enter Tryd.func53, Tryd.ntmps53
  go_wp2_with fail
  go_loopw [4, 5, 6, 7] (fun o i _ _ wr => ∃ (k : Nat) (acc : List UInt8), 1 ≤ k ∧ k ≤ s.size ∧ i = .int .i64 k ∧ acc.length ≤ k ∧ wr.ownsRow w.heap.size 5 1 o acc.length (acc.map bv) ∧ Hid (quoT s = (quoF (s.size - k + 1) ((L s).drop k)).map fun r => (acc ++ r.1, r.2 + k)) ∧ Below w.heap.size w wr) (fun _ i _ _ _ => s.size - (intOf i).toNat)
  case atStart => exact ⟨1, [], Nat.le_refl _, h1, rfl, Nat.zero_le _, World.ownsRow_nil _ _ _ _, HST.out, Below.refl _ _⟩
  case round =>
    clear HST
    obtain ⟨k, acc, hk1, hk, rfl, hal, hown, HR, hbw⟩ := hrel
    have hz := hbw.size
    by_cases hlt : k < s.size
    case neg =>
      have HF : Hid (unqV (quoT s) = .tuple #[.string ⟨#[]⟩, .int .i64 0]) := by
        unfold Hid
        rw [HR.out, L_drop_nil s k (by omega)]
        rfl
      clear HR
      go_wp2_with fail
      go_ret2
      exact ⟨by rw [HF.out]; rfl, hbw⟩
    have hd := L_drop s k hlt
    have HD : Hid (quoT s = (if s[k].toNat = 34 then some ([], 1) else if (unsR ((L s).drop k)).2 = 0 then none else (quoF (s.size - k) (((L s).drop k).drop (unsR ((L s).drop k)).2)).map fun r => (UInt8.ofNat (unsR ((L s).drop k)).1 :: r.1, r.2 + (unsR ((L s).drop k)).2)).map fun r => (acc ++ r.1, r.2 + k)) := by
      unfold Hid
      rw [HR.out, hd, quoF_cons]
    clear HR hd
    by_cases c1 : s[k].toNat = 34
    · have e1 : ((s[k].toNat : Int) != 34) = false := bneF _ _ (by omega)
      have HF : Hid (quoT s = some (acc, k + 1)) := by
        unfold Hid
        rw [HD.out, if_pos c1]
        simp [Nat.add_comm]
      have hcv := conv_own bytesT hown
      clear HD c1
      go_wp2_with fail
      go_ret2
      exact ⟨by rw [HF.out]; rfl, hbw⟩
    have e1 : ((s[k].toNat : Int) != 34) = true := bneQ _ _ (by omega)
    have HD2 : Hid (quoT s = (if (unsR ((L s).drop k)).2 = 0 then none else (quoF (s.size - k) (((L s).drop k).drop (unsR ((L s).drop k)).2)).map fun r => (UInt8.ofNat (unsR ((L s).drop k)).1 :: r.1, r.2 + (unsR ((L s).drop k)).2)).map fun r => (acc ++ r.1, r.2 + k)) := by unfold Hid; rw [HD.out, if_neg c1]
    have hLx : L (s.extract k s.size) = (L s).drop k := L_from s k
    have hxs : (s.extract k s.size).size ≤ s.size := by rw [ByteArray.size_extract]; omega
    have hlt2 := unsR_lt ((L s).drop k)
    rw [List.length_drop, L_len] at hlt2
    have HC := Lib.hid (fun w' => unsign_any (s.extract k s.size) w' (by omega))
    rw [hLx] at HC
    clear HD c1 hLx
    generalize hcc : (unsR ((L s).drop k)).1 = c at *
    generalize hnn : (unsR ((L s).drop k)).2 = n at *
    clear hcc hnn
    obtain ⟨hc256, hnl⟩ := hlt2
    go_wp2_with fail
    refine (HC.out _).mono ?_
    rintro e w1 ⟨rfl, hb1⟩
    have hown1 := own_below hown hb1
    have hbw1 := hbw.trans (hb1.mono hz)
    have hz1 := hbw1.size
    clear hown hb1 HC
    by_cases hn : n = 0
    · have hn0 : ((n : Int) == 0) = true := beq_iff_eq.2 (by omega)
      have HF : Hid (unqV (quoT s) = .tuple #[.string ⟨#[]⟩, .int .i64 0]) := by unfold Hid; rw [HD2.out, if_pos hn]; rfl
      clear HD2 hn
      go_wp2_with fail
      go_ret2
      exact ⟨by rw [HF.out]; rfl, hbw1⟩
    · have hn0 : ((n : Int) == 0) = false := beq_eq_false_iff_ne.2 (by omega)
      have HF : Hid (quoT s = (quoF (s.size - (k + n) + 1) ((L s).drop (k + n))).map fun r => ((acc ++ [UInt8.ofNat c]) ++ r.1, r.2 + (k + n))) := by
        unfold Hid
        rw [HD2.out, if_neg hn, List.drop_drop, quoF_fuel (s.size - k) (s.size - (k + n) + 1) _ (by rw [List.length_drop, L_len]; omega) (by rw [List.length_drop, L_len]; omega), Option.map_map]
        congr 1
        funext r
        simp only [Function.comp, List.append_assoc, List.cons_append, List.nil_append, Prod.mk.injEq, true_and]
        omega
      have hcn : (UInt8.ofNat c).toNat = c := by simp; omega
      have hcv : (c : Int) = ((UInt8.ofNat c).toNat : Int) := by rw [hcn]
      have HCN := Lib.hid hcv
      have hn1 : 1 ≤ n := by omega
      clear HD2 hn hcn hcv
      go_wp2_with (at_builtin; refine wp_pushM bytesT rfl _ _ rfl hown1 [UInt8.ofNat c] [.int .u8 (c : Int)] (by rw [HCN.out]; rfl) 1 rfl rfl _ rfl rfl (by omega) hz1 ?_; intro v' w2 hown2 hg2 hb2)
      exact ⟨⟨k + n, acc ++ [UInt8.ofNat c], by omega, by omega, by congr 1, by simp; omega, by rw [List.length_append]; exact hown2, HF, hbw1.trans hb2⟩, by simp [intOf]; omega⟩
end Go.Proofs.YtjbhjnelepbkcaaDoor
