/- The package bracelex, walked: comments. Conditions: strings of at most 10^11 bytes. -/
import Derived.Test.YtmafggfonapmpaaDoorBl4
import Derived.Test.YtmafggfonapmpaaDoorUtf
namespace Go.Proofs.YtmafggfonapmpaaDoor
open Go.RowKit
set_option maxHeartbeats 1000000
set_option maxRecDepth 100000

theorem comF_fuel (block : Bool) : ∀ (f g : Nat) (l : List UInt8), l.length ≤ f → l.length ≤ g → comF block f l = comF block g l
  | 0, 0, _, _, _ => rfl
  | 0, g + 1, l, h, _ => by
    have : l = [] := List.eq_nil_of_length_eq_zero (by omega)
    subst this
    rfl
  | f + 1, 0, l, _, h => by
    have : l = [] := List.eq_nil_of_length_eq_zero (by omega)
    subst this
    rfl
  | f + 1, g + 1, [], _, _ => rfl
  | f + 1, g + 1, b :: t, h1, h2 => by
    by_cases hn : (dec (b :: t)).2 = 0
    · simp only [comF, hn, if_true]
    · have hl : ((b :: t).drop (dec (b :: t)).2).length ≤ f ∧ ((b :: t).drop (dec (b :: t)).2).length ≤ g := by
        rw [List.length_drop]
        omega
      have ih := comF_fuel block f g ((b :: t).drop (dec (b :: t)).2) hl.1 hl.2
      simp only [comF, ih]
def comG (block : Bool) (l : List UInt8) : Nat × Nat := comF block l.length l
def comFin (k : Nat) (x : Nat × Nat) : Nat × Nat := if x.2 ≠ 0 then (0, x.2) else (k + x.1, 0)
theorem comG_cons (block : Bool) (b : UInt8) (t : List UInt8) : comG block (b :: t) =
    if block = false ∧ (b.toNat = 10 ∨ pre (b :: t) [13, 10]) then (0, 0)
    else if block = true ∧ pre (b :: t) [42, 47] then (2, 0)
    else if (dec (b :: t)).2 = 0 then (0, 5)
    else comFin (dec (b :: t)).2 (comG block ((b :: t).drop (dec (b :: t)).2)) := by
  unfold comG comFin
  rw [List.length_cons, comF]
  by_cases hn : (dec (b :: t)).2 = 0
  · simp only [hn, if_true]
  · rw [comF_fuel block t.length ((b :: t).drop (dec (b :: t)).2).length _ (by rw [List.length_drop, List.length_cons]; omega) (Nat.le_refl _)]
theorem comFin_fin (k n : Nat) (x : Nat × Nat) : comFin k (comFin n x) = comFin (k + n) x := by
  unfold comFin
  by_cases h : x.2 = 0
  · simp [h]; omega
  · simp [h]
theorem comL_eq (a c : UInt8) (t : List UInt8) : comL (a :: c :: t) = if c.toNat = 47 then comFin 2 (comG false t) else if c.toNat = 42 then comFin 2 (comG true t) else (0, 3) := rfl

theorem comment_any (s : ByteArray) (w : World) (hs : s.size ≤ 100000000000) :
    Calls Tryd.prog 33 #[.string s] w fun e w' => e = .returned (.tuple #[.int .i64 (comL (L s)).1, .int .i64 (comL (L s)).2]) ∧ w = w' := by
  have hm : s.size ≤ maxLen := by simp only [maxLen]; omega
  by_cases h2 : s.size < 2
  · have HL : Hid (comL (L s) = (0, 4)) := by
      unfold Hid
      have := L_len s
      rcases hl : L s with _ | ⟨a, _ | ⟨c, t⟩⟩
      · rfl
      · rfl
      · rw [hl] at this; simp at this; omega
    have h2' : (s.size : Int) < 2 := by omega
    clear h2
    go_enter Tryd.func33, Tryd.ntmps33
    go_wp2_with fail
    go_ret2
    exact ⟨by rw [HL.out]; rfl, rfl⟩
  have hp : 1 < s.size := by omega
  have hX : Hid (comL (L s) = if s[1].toNat = 47 then comFin 2 (comG false ((L s).drop 2)) else if s[1].toNat = 42 then comFin 2 (comG true ((L s).drop 2)) else (0, 3)) := by
    unfold Hid
    rw [L_cons0 s (by omega), L_drop s 1 hp, comL_eq]
    rfl
  by_cases h47 : s[1].toNat = 47
  · have HX : Hid (comL (L s) = comFin 2 (comG false ((L s).drop 2))) := by unfold Hid; rw [hX.out, if_pos h47]
    have e1 : ((s[1].toNat : Int) != 47) = false := by rw [bne_eq_false_iff_eq]; omega
    have e2 : ((s[1].toNat : Int) == 47) = true := by rw [beq_iff_eq]; omega
    have e3 : ((s[1].toNat : Int) == 42) = false := by rw [beq_eq_false_iff_ne]; omega
    clear h47 hX
    go_enter Tryd.func33, Tryd.ntmps33
    go_wp2_with fail
    go_loop [4, 5, 6] (fun n _ _ => ∃ k : Nat, 2 ≤ k ∧ k ≤ s.size ∧ n = .int .i64 k ∧ Hid (comL (L s) = comFin k (comG false ((L s).drop k)))) (fun n _ _ => s.size - (intOf n).toNat)
    case atStart => exact ⟨2, by omega, by omega, rfl, HX⟩
    case round =>
      clear HX
      obtain ⟨k, hk2, hk, rfl, hr⟩ := hrel
      by_cases hlt : k < s.size
      · have hG := comG_cons false s[k] ((L s).drop (k + 1))
        rw [← L_drop s k hlt] at hG
        have HG := Lib.hid hG; clear hG
        have hx : (s.extract k s.size).size ≤ maxLen := by rw [ext_size]; simp only [maxLen]; omega
        have hpr : ∀ p : ByteArray, pre (L (s.extract k s.size)) (L p) = pre ((L s).drop k) (L p) := fun p => by rw [L_from]
        have HP := Lib.hid hpr; clear hpr
        by_cases h10 : s[k].toNat = 10
        · have g : ((s[k].toNat : Int) == 10) = true := by rw [beq_iff_eq]; omega
          have HF : Hid (comL (L s) = (k, 0)) := by unfold Hid; rw [hr.out, HG.out, if_pos ⟨rfl, .inl h10⟩]; rfl
          clear h10
          go_wp2_with fail
          go_ret2
          exact ⟨by rw [HF.out]; rfl, rfl⟩
        have g : ((s[k].toNat : Int) == 10) = false := by rw [beq_eq_false_iff_ne]; omega
        cases hpp : pre ((L s).drop k) [13, 10]
        case true =>
          have HF : Hid (comL (L s) = (k, 0)) := by unfold Hid; rw [hr.out, HG.out, if_pos ⟨rfl, .inr hpp⟩]; rfl
          have hq : pre (L (s.extract k s.size)) (L ⟨#[13, 10]⟩) = true := by rw [HP.out]; exact hpp
          clear h10 hpp
          go_wp2_with (first | (go_at_call 23; refine (HasPrefix_any _ _ _ hx (by decide)).mono ?_; rintro e w' ⟨rfl, rfl⟩) | (go_at_call 39; refine (Decode_any s k _ hm).mono ?_; rintro e w' ⟨rfl, rfl⟩))
          go_ret2
          exact ⟨by rw [HF.out]; rfl, rfl⟩
        have hq : pre (L (s.extract k s.size)) (L ⟨#[13, 10]⟩) = false := by rw [HP.out]; exact hpp
        have HG2 : Hid (comL (L s) = comFin k (if (dec ((L s).drop k)).2 = 0 then (0, 5) else comFin (dec ((L s).drop k)).2 (comG false (((L s).drop k).drop (dec ((L s).drop k)).2)))) := by
          unfold Hid
          rw [hr.out, HG.out, if_neg (by rintro ⟨_, h | h⟩; exact h10 h; rw [hpp] at h; cases h), if_neg (by simp)]
        clear h10 hpp HG hr
        have hle := dec_le ((L s).drop k)
        rw [List.length_drop, L_len] at hle
        by_cases hn : (dec ((L s).drop k)).2 = 0
        · have hn0 : (((dec ((L s).drop k)).2 : Int) == 0) = true := by rw [beq_iff_eq]; omega
          have HF : Hid (comL (L s) = (0, 5)) := by unfold Hid; rw [HG2.out, if_pos hn]; rfl
          clear hn HG2
          go_wp2_with (first | (go_at_call 23; refine (HasPrefix_any _ _ _ hx (by decide)).mono ?_; rintro e w' ⟨rfl, rfl⟩) | (go_at_call 39; refine (Decode_any s k _ hm).mono ?_; rintro e w' ⟨rfl, rfl⟩))
          go_ret2
          exact ⟨by rw [HF.out]; rfl, rfl⟩
        · have hn0 : (((dec ((L s).drop k)).2 : Int) == 0) = false := by rw [beq_eq_false_iff_ne]; omega
          have HF : Hid (comL (L s) = comFin (k + (dec ((L s).drop k)).2) (comG false ((L s).drop (k + (dec ((L s).drop k)).2)))) := by
            unfold Hid; rw [HG2.out, if_neg hn, comFin_fin, List.drop_drop]
          clear HG2
          go_wp2_with (first | (go_at_call 23; refine (HasPrefix_any _ _ _ hx (by decide)).mono ?_; rintro e w' ⟨rfl, rfl⟩) | (go_at_call 39; refine (Decode_any s k _ hm).mono ?_; rintro e w' ⟨rfl, rfl⟩))
          exact ⟨⟨k + (dec ((L s).drop k)).2, by omega, by omega, rfl, HF⟩, by simp [intOf]; omega⟩
      · obtain rfl : k = s.size := by omega
        have HF : Hid (comL (L s) = (s.size, 0)) := by unfold Hid; rw [hr.out, L_drop_nil s _ (Nat.le_refl _)]; rfl
        clear hr
        go_wp2_with fail
        go_ret2
        exact ⟨by rw [HF.out]; rfl, rfl⟩
  by_cases h42 : s[1].toNat = 42
  · have HX : Hid (comL (L s) = comFin 2 (comG true ((L s).drop 2))) := by unfold Hid; rw [hX.out, if_neg h47, if_pos h42]
    have e1 : ((s[1].toNat : Int) != 47) = true := by rw [bne_iff_ne]; omega
    have e4 : ((s[1].toNat : Int) != 42) = false := by rw [bne_eq_false_iff_eq]; omega
    have e2 : ((s[1].toNat : Int) == 47) = false := by rw [beq_eq_false_iff_ne]; omega
    have e3 : ((s[1].toNat : Int) == 42) = true := by rw [beq_iff_eq]; omega
    clear h47 h42 hX
    go_enter Tryd.func33, Tryd.ntmps33
    go_wp2_with fail
    go_loop [4, 5, 6] (fun n _ _ => ∃ k : Nat, 2 ≤ k ∧ k ≤ s.size ∧ n = .int .i64 k ∧ Hid (comL (L s) = comFin k (comG true ((L s).drop k)))) (fun n _ _ => s.size - (intOf n).toNat)
    case atStart => exact ⟨2, by omega, by omega, rfl, HX⟩
    case round =>
      clear HX
      obtain ⟨k, hk2, hk, rfl, hr⟩ := hrel
      by_cases hlt : k < s.size
      · have hG := comG_cons true s[k] ((L s).drop (k + 1))
        rw [← L_drop s k hlt] at hG
        have HG := Lib.hid hG; clear hG
        have hx : (s.extract k s.size).size ≤ maxLen := by rw [ext_size]; simp only [maxLen]; omega
        have hpr : ∀ p : ByteArray, pre (L (s.extract k s.size)) (L p) = pre ((L s).drop k) (L p) := fun p => by rw [L_from]
        have HP := Lib.hid hpr; clear hpr
        cases hpp : pre ((L s).drop k) [42, 47]
        case true =>
          have HF : Hid (comL (L s) = (k + 2, 0)) := by unfold Hid; rw [hr.out, HG.out, if_neg (by simp), if_pos ⟨rfl, hpp⟩]; rfl
          have hq : pre (L (s.extract k s.size)) (L ⟨#[42, 47]⟩) = true := by rw [HP.out]; exact hpp
          clear hpp
          go_wp2_with (first | (go_at_call 23; refine (HasPrefix_any _ _ _ hx (by decide)).mono ?_; rintro e w' ⟨rfl, rfl⟩) | (go_at_call 39; refine (Decode_any s k _ hm).mono ?_; rintro e w' ⟨rfl, rfl⟩))
          go_ret2
          exact ⟨by rw [HF.out]; rfl, rfl⟩
        have hq : pre (L (s.extract k s.size)) (L ⟨#[42, 47]⟩) = false := by rw [HP.out]; exact hpp
        have HG2 : Hid (comL (L s) = comFin k (if (dec ((L s).drop k)).2 = 0 then (0, 5) else comFin (dec ((L s).drop k)).2 (comG true (((L s).drop k).drop (dec ((L s).drop k)).2)))) := by
          unfold Hid
          rw [hr.out, HG.out, if_neg (by simp), if_neg (by rintro ⟨_, h⟩; rw [hpp] at h; cases h)]
        clear hpp HG hr
        have hle := dec_le ((L s).drop k)
        rw [List.length_drop, L_len] at hle
        by_cases hn : (dec ((L s).drop k)).2 = 0
        · have hn0 : (((dec ((L s).drop k)).2 : Int) == 0) = true := by rw [beq_iff_eq]; omega
          have HF : Hid (comL (L s) = (0, 5)) := by unfold Hid; rw [HG2.out, if_pos hn]; rfl
          clear hn HG2
          go_wp2_with (first | (go_at_call 23; refine (HasPrefix_any _ _ _ hx (by decide)).mono ?_; rintro e w' ⟨rfl, rfl⟩) | (go_at_call 39; refine (Decode_any s k _ hm).mono ?_; rintro e w' ⟨rfl, rfl⟩))
          go_ret2
          exact ⟨by rw [HF.out]; rfl, rfl⟩
        · have hn0 : (((dec ((L s).drop k)).2 : Int) == 0) = false := by rw [beq_eq_false_iff_ne]; omega
          have HF : Hid (comL (L s) = comFin (k + (dec ((L s).drop k)).2) (comG true ((L s).drop (k + (dec ((L s).drop k)).2)))) := by
            unfold Hid; rw [HG2.out, if_neg hn, comFin_fin, List.drop_drop]
          clear HG2
          go_wp2_with (first | (go_at_call 23; refine (HasPrefix_any _ _ _ hx (by decide)).mono ?_; rintro e w' ⟨rfl, rfl⟩) | (go_at_call 39; refine (Decode_any s k _ hm).mono ?_; rintro e w' ⟨rfl, rfl⟩))
          exact ⟨⟨k + (dec ((L s).drop k)).2, by omega, by omega, rfl, HF⟩, by simp [intOf]; omega⟩
      · obtain rfl : k = s.size := by omega
        have HF : Hid (comL (L s) = (0, 4)) := by unfold Hid; rw [hr.out, L_drop_nil s _ (Nat.le_refl _)]; rfl
        clear hr
        go_wp2_with fail
        go_ret2
        exact ⟨by rw [HF.out]; rfl, rfl⟩
  have HF : Hid (comL (L s) = (0, 3)) := by unfold Hid; rw [hX.out, if_neg h47, if_neg h42]
  have e1 : ((s[1].toNat : Int) != 47) = true := by rw [bne_iff_ne]; omega
  have e4 : ((s[1].toNat : Int) != 42) = true := by rw [bne_iff_ne]; omega
  clear h47 h42 hX
  go_enter Tryd.func33, Tryd.ntmps33
  go_wp2_with fail
  go_ret2
  exact ⟨by rw [HF.out]; rfl, rfl⟩
end Go.Proofs.YtmafggfonapmpaaDoor
