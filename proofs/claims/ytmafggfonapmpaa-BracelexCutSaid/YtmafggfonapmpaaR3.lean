/- The package datakitref19, walked: quoted strings. Conditions: strings of at most 10^11 bytes. -/
import Derived.Test.YtmafggfonapmpaaR2
import Derived.Test.YtmafggfonapmpaaBl9
import Derived.Test.YtmafggfonapmpaaRef3c
namespace Go.Proofs.Ytmafggfonapmpaa
open Go.RowKit
set_option maxHeartbeats 1000000
set_option maxRecDepth 100000

theorem dec_lt32 (b : UInt8) (t : List UInt8) (h : (dec (b :: t)).2 ≠ 0) : (dec (b :: t)).1 < 32 ↔ b.toNat < 32 := by
  rcases dec_cases (b :: t) with h0 | ⟨r, n, hd, hs, hw, h1, h4, hl, he⟩
  · rw [h0] at h; exact absurd rfl h
  · rw [hd]
    show r < 32 ↔ _
    obtain ⟨m, rfl⟩ : ∃ m, n = m + 1 := ⟨n - 1, by omega⟩
    rw [List.take_succ_cons] at he
    have hb := b.toNat_lt
    have hr : r < 2097152 := by simp [scal] at hs; omega
    unfold enc at he
    by_cases c1 : r < 128
    · rw [if_pos c1] at he
      simp only [List.cons.injEq] at he
      rw [ofNat_eq (by omega)] at he
      omega
    rw [if_neg c1] at he
    by_cases c2 : r < 2048
    · rw [if_pos c2] at he
      simp only [List.cons.injEq] at he
      rw [ofNat_eq (by omega)] at he
      omega
    rw [if_neg c2] at he
    by_cases c3 : r < 65536
    · rw [if_pos c3] at he
      simp only [List.cons.injEq] at he
      rw [ofNat_eq (by omega)] at he
      omega
    · rw [if_neg c3] at he
      simp only [List.cons.injEq] at he
      rw [ofNat_eq (by omega)] at he
      omega
theorem dec_enc (l : List UInt8) (h : (dec l).2 ≠ 0) : enc (dec l).1 = l.take (dec l).2 := by
  rcases dec_cases l with h0 | ⟨r, n, hd, _, _, _, _, _, he⟩
  · rw [h0] at h; exact absurd rfl h
  · rw [hd]; exact he
theorem dec_le4 (l : List UInt8) : (dec l).2 ≤ 4 := by
  rcases dec_cases l with h | ⟨_, _, h, _, _, _, h4, _⟩ <;> rw [h]
  · exact Nat.zero_le _
  · exact h4
/-- What Quoted hands back at an offset. -/
def QPost (i : Nat) (x : List UInt8 × Nat × Nat) (e : Ending) : Prop :=
  ∃ m : Nat, e = .returned (.tuple #[.string ⟨x.1.toArray⟩, .int .i64 m, .int .i64 x.2.2]) ∧ (x.2.2 = 0 → m = i + x.2.1)
theorem QPost_err {i : Nat} {x : List UInt8 × Nat × Nat} {n k : Nat} (h : x = ([], n, k)) (hk : k ≠ 0) : QPost i x (.returned (.tuple #[.string ⟨#[]⟩, .int .i64 0, .int .i64 k])) := by
  subst h
  exact ⟨0, rfl, fun h => absurd h hk⟩
theorem Quoted3_any (s : ByteArray) (i : Nat) (w : World) (hi : i < s.size) (hs : s.size ≤ 100000000000) :
    Calls Try.prog 27 #[.string s, .int .i64 i] w fun e w' => QPost i (quotR ((L s).drop (i + 1))) e ∧ Below w.heap.size w w' := by
  have hm : s.size ≤ maxLen := by simp only [maxLen]; omega
  go_enter Try.func27, Try.ntmps27
  go_wp2_with fail
  go_loopw [1, 7, 8, 9, 10, 11, 12] (fun a o _ _ _ _ _ wr => ∃ (k : Nat) (out : ByteArray), i + 1 ≤ k ∧ k ≤ s.size ∧ a = .int .i64 k ∧ o = .string out ∧ out.size ≤ 4 * k ∧ Hid (quotR ((L s).drop (i + 1)) = quotFin (L out) (k - i) (quotL ((L s).drop k))) ∧ Below w.heap.size w wr) (fun a _ _ _ _ _ _ _ => s.size - (intOf a).toNat)
  case atStart => exact ⟨i + 1, ⟨#[]⟩, Nat.le_refl _, hi, rfl, rfl, Nat.zero_le _, by unfold Hid; rw [show i + 1 - i = 1 by omega]; rfl, Below.refl _ _⟩
  case round =>
    obtain ⟨k, out, hk1, hk, rfl, rfl, hol, HR, hbw⟩ := hrel
    by_cases hlt : k < s.size
    case neg =>
      have HF : Hid (quotR ((L s).drop (i + 1)) = ([], 0, 4)) := by unfold Hid; rw [HR.out, L_drop_nil s k (by omega)]; rfl
      have q : (s.size : Int) ≤ k := by omega
      clear HR
      go_wp2_with fail
      go_ret3
      exact ⟨QPost_err HF.out (by decide), hbw⟩
    have q0 : ¬ (s.size : Int) ≤ k := by omega
    have hQ := quotL_cons s[k] ((L s).drop (k + 1))
    rw [← L_drop s k hlt] at hQ
    have HQ := Lib.hid hQ; clear hQ
    by_cases h34 : s[k].toNat = 34
    · have g : ((s[k].toNat : Int) == 34) = true := by rw [beq_iff_eq]; omega
      have HF : Hid (quotR ((L s).drop (i + 1)) = (L out, k - i + 1, 0)) := by unfold Hid; rw [HR.out, HQ.out, if_pos h34]; simp [quotFin]
      clear h34 HR HQ
      go_wp2_with fail
      go_ret3
      exact ⟨⟨k + 1, by rw [HF.out]; rfl, fun _ => by rw [HF.out]; simp only; omega⟩, hbw⟩
    have g34 : ((s[k].toNat : Int) == 34) = false := by rw [beq_eq_false_iff_ne]; omega
    by_cases h92 : s[k].toNat = 92
    · have g92 : ((s[k].toNat : Int) == 92) = true := by rw [beq_iff_eq]; omega
      have HE : Hid (quotR ((L s).drop (i + 1)) = quotFin (L out) (k - i) (if (escL ((L s).drop (k + 1))).2.2 ≠ 0 then ([], 0, (escL ((L s).drop (k + 1))).2.2) else quotFin (enc (escL ((L s).drop (k + 1))).1) (1 + (escL ((L s).drop (k + 1))).2.1) (quotL (((L s).drop (k + 1)).drop (escL ((L s).drop (k + 1))).2.1)))) := by
        unfold Hid; rw [HR.out, HQ.out, if_neg h34, if_pos h92]
      have hok := escL_ok ((L s).drop (k + 1))
      have HOK := Lib.hid hok; clear hok
      clear h34 h92 HR HQ
      go_wp2_with fail
      refine (esc3_any s k _ hlt hs).mono ?_
      rintro e w1 ⟨⟨r, n, rfl, hrn⟩, rfl⟩
      have HN := Lib.hid hrn; clear hrn
      simp only [bump]
      by_cases hz : (escL ((L s).drop (k + 1))).2.2 = 0
      case neg =>
        have e1 : (((escL ((L s).drop (k + 1))).2.2 : Int) != 0) = true := by rw [bne_iff_ne]; omega
        have HF : Hid (quotR ((L s).drop (i + 1)) = ([], 0, (escL ((L s).drop (k + 1))).2.2)) := by unfold Hid; rw [HE.out, if_pos hz, quotFin, if_pos hz]
        have HZ := Lib.hid hz; clear hz HE
        go_wp2_with fail
        go_ret3
        exact ⟨QPost_err HF.out HZ.out, hbw⟩
      have e1 : (((escL ((L s).drop (k + 1))).2.2 : Int) != 0) = false := by rw [bne_eq_false_iff_eq]; omega
      obtain ⟨hsc, hn1, hn2⟩ := HOK.out hz
      obtain ⟨hr, hn⟩ := HN.out hz
      have hn' : (escL ((L s).drop (k + 1))).2.1 = n - 1 := by simp only [bump] at hn; omega
      have hr' : (escL ((L s).drop (k + 1))).1 = r := hr.symm
      rw [hr'] at hsc
      rw [hn'] at hn1 hn2
      rw [List.length_drop, L_len] at hn2
      have HF : Hid (quotR ((L s).drop (i + 1)) = quotFin (L out ++ enc r) (k + n - i) (quotL ((L s).drop (k + n)))) := by
        unfold Hid
        rw [HE.out, if_neg (by simpa using hz), quotFin_fin, hr', hn', List.drop_drop]
        congr 1
        · omega
        · congr 2; omega
      clear HE HN HOK hr hn hr' hn'
      have HZ := Lib.hid hz; clear hz
      go_wp2_with fail
      refine (Encode3_any r _ hsc).mono ?_
      rintro e w2 ⟨rfl, hb2⟩
      have hbw2 : Below w.heap.size w w2 := hbw.trans (hb2.mono hbw.size)
      have hel : (⟨(enc r).toArray⟩ : ByteArray).size ≤ 4 := by
        rw [← L_len, L_mk, enc_len]; exact wid_le r
      clear hbw hb2
      go_wp2_with fail
      refine ⟨⟨k + n, out ++ ⟨(enc r).toArray⟩, by omega, by omega, rfl, rfl, by rw [ByteArray.size_append]; omega, by rw [L_append, L_mk]; exact HF, hbw2⟩, by simp [intOf]; omega⟩
    have g92 : ((s[k].toNat : Int) == 92) = false := by rw [beq_eq_false_iff_ne]; omega
    have HE : Hid (quotR ((L s).drop (i + 1)) = quotFin (L out) (k - i) (if s[k].toNat < 32 ∨ (dec ((L s).drop k)).2 = 0 then ([], 0, 5) else quotFin (((L s).drop k).take (dec ((L s).drop k)).2) (dec ((L s).drop k)).2 (quotL (((L s).drop k).drop (dec ((L s).drop k)).2)))) := by
      unfold Hid; rw [HR.out, HQ.out, if_neg h34, if_neg h92]
    clear h34 h92 HR HQ
    have hle := dec_le ((L s).drop k)
    rw [List.length_drop, L_len] at hle
    have h32 : (dec ((L s).drop k)).2 ≠ 0 → ((dec ((L s).drop k)).1 < 32 ↔ s[k].toNat < 32) := by
      rw [L_drop s k hlt]; exact dec_lt32 _ _
    have hen := dec_enc ((L s).drop k)
    have h4 := dec_le4 ((L s).drop k)
    have hsc := dec_scal ((L s).drop k)
    by_cases hn : (dec ((L s).drop k)).2 = 0
    · have hn0 : (((dec ((L s).drop k)).2 : Int) == 0) = true := by rw [beq_iff_eq]; omega
      have HF : Hid (quotR ((L s).drop (i + 1)) = ([], 0, 5)) := by unfold Hid; rw [HE.out, if_pos (.inr hn)]; rfl
      clear HE h32 hen hn
      go_wp2_with (go_at_call 47; refine (Decode3_any s k _ hm).mono ?_; rintro e w2 ⟨rfl, hb2⟩)
      go_ret3
      exact ⟨QPost_err HF.out (by decide), hbw.trans (hb2.mono hbw.size)⟩
    have hn0 : (((dec ((L s).drop k)).2 : Int) == 0) = false := by rw [beq_eq_false_iff_ne]; omega
    have hen := hen hn
    by_cases hr : (dec ((L s).drop k)).1 < 32
    · have hr' : ((dec ((L s).drop k)).1 : Int) < 32 := by omega
      have HF : Hid (quotR ((L s).drop (i + 1)) = ([], 0, 5)) := by unfold Hid; rw [HE.out, if_pos (.inl ((h32 hn).1 hr))]; rfl
      clear HE h32 hen hn hr
      go_wp2_with (go_at_call 47; refine (Decode3_any s k _ hm).mono ?_; rintro e w2 ⟨rfl, hb2⟩)
      go_ret3
      exact ⟨QPost_err HF.out (by decide), hbw.trans (hb2.mono hbw.size)⟩
    · have hr' : ¬ ((dec ((L s).drop k)).1 : Int) < 32 := by omega
      have HF : Hid (quotR ((L s).drop (i + 1)) = quotFin (L out ++ enc (dec ((L s).drop k)).1) (k + (dec ((L s).drop k)).2 - i) (quotL ((L s).drop (k + (dec ((L s).drop k)).2)))) := by
        unfold Hid
        rw [HE.out, if_neg (fun h => h.elim (fun h => hr ((h32 hn).2 h)) hn), quotFin_fin, List.drop_drop, hen]
        congr 1
        omega
      have hn1 : 1 ≤ (dec ((L s).drop k)).2 := by omega
      clear HE h32 hen hn hr
      go_wp2_with fail
      refine (Decode3_any s k _ hm).mono ?_
      rintro e w1 ⟨rfl, hb1⟩
      generalize (dec ((L s).drop k)).1 = r at *
      generalize (dec ((L s).drop k)).2 = n at *
      go_wp2_with fail
      refine (Encode3_any r _ hsc).mono ?_
      rintro e w2 ⟨rfl, hb2⟩
      have hbw1 : Below w.heap.size w w1 := hbw.trans (hb1.mono hbw.size)
      have hbw2 : Below w.heap.size w w2 := hbw1.trans (hb2.mono hbw1.size)
      have hel : (⟨(enc r).toArray⟩ : ByteArray).size ≤ 4 := by
        rw [← L_len, L_mk, enc_len]; exact wid_le r
      clear hbw hb1 hb2 hbw1
      go_wp2_with fail
      refine ⟨⟨k + n, out ++ ⟨(enc r).toArray⟩, by omega, by omega, rfl, rfl, by rw [ByteArray.size_append]; omega, by rw [L_append, L_mk]; exact HF, hbw2⟩, by simp [intOf]; omega⟩
end Go.Proofs.Ytmafggfonapmpaa
