/- The package bracelex, walked: quoted strings. Conditions: strings of at most 10^11 bytes. -/
import Derived.Test.YtmafggfonapmpaaDoorBl6
import Derived.Test.YtmafggfonapmpaaDoorMem
namespace Go.Proofs.YtmafggfonapmpaaDoor
open Go.RowKit
set_option maxHeartbeats 1000000
set_option maxRecDepth 100000

theorem quotF_fuel : ∀ (f g : Nat) (l : List UInt8), l.length ≤ f → l.length ≤ g → quotF f l = quotF g l
  | 0, 0, _, _, _ => rfl
  | 0, g + 1, l, h, _ => by
    have : l = [] := List.eq_nil_of_length_eq_zero (by omega)
    subst this
    rfl
  | f + 1, 0, l, _, h => by
    have : l = [] := List.eq_nil_of_length_eq_zero (by omega)
    subst this
    rfl
  | f + 1, g + 1, [], _, _ => rfl
  | f + 1, g + 1, b :: t, h1, h2 => by
    have h1' : t.length ≤ f := by simpa using h1
    have h2' : t.length ≤ g := by simpa using h2
    have ih1 := quotF_fuel f g (t.drop (escL t).2.1) (by rw [List.length_drop]; omega) (by rw [List.length_drop]; omega)
    by_cases hn : (dec (b :: t)).2 = 0
    · simp only [quotF, hn, ih1, or_true, if_true]
    · have ih := quotF_fuel f g ((b :: t).drop (dec (b :: t)).2) (by rw [List.length_drop, List.length_cons]; omega) (by rw [List.length_drop, List.length_cons]; omega)
      simp only [quotF, ih1, ih]
/-- What was read before, and the rest. -/
def quotFin (acc : List UInt8) (k : Nat) (x : List UInt8 × Nat × Nat) : List UInt8 × Nat × Nat := if x.2.2 ≠ 0 then ([], 0, x.2.2) else (acc ++ x.1, k + x.2.1, 0)
theorem quotFin_fin (a b : List UInt8) (k n : Nat) (x : List UInt8 × Nat × Nat) : quotFin a k (quotFin b n x) = quotFin (a ++ b) (k + n) x := by
  unfold quotFin
  by_cases h : x.2.2 = 0
  · simp [h]; omega
  · simp [h]
theorem quotL_nil : quotL [] = ([], 0, 4) := rfl
theorem quotL_cons (b : UInt8) (t : List UInt8) : quotL (b :: t) =
    if b.toNat = 34 then ([], 1, 0)
    else if b.toNat = 92 then (if (escL t).2.2 ≠ 0 then ([], 0, (escL t).2.2) else quotFin (enc (escL t).1) (1 + (escL t).2.1) (quotL (t.drop (escL t).2.1)))
    else if b.toNat < 32 ∨ (dec (b :: t)).2 = 0 then ([], 0, 5)
    else quotFin ((b :: t).take (dec (b :: t)).2) (dec (b :: t)).2 (quotL ((b :: t).drop (dec (b :: t)).2)) := by
  unfold quotL quotFin
  rw [List.length_cons, quotF]
  rw [quotF_fuel t.length (t.drop (escL t).2.1).length (t.drop (escL t).2.1) (by rw [List.length_drop]; omega) (Nat.le_refl _)]
  by_cases hn : (dec (b :: t)).2 = 0
  · simp only [hn, or_true, if_true]
  · rw [quotF_fuel t.length ((b :: t).drop (dec (b :: t)).2).length _ (by rw [List.length_drop, List.length_cons]; omega) (Nat.le_refl _)]
theorem bytesT : BytesT Tryd.prog 54 9 5 := bytesT_of Tryd.underlying54 Tryd.underlying9 Tryd.underlying5 (by kernel_rfl)
theorem wid_le (r : Nat) : wid r ≤ 4 := by unfold wid; repeat' split
                                           all_goals omega
/-- What quoted hands back: the string, the length with both quotation marks, the error. -/
def quotR (l : List UInt8) : List UInt8 × Nat × Nat := quotFin [] 1 (quotL l)
theorem ret3_str {l : List UInt8} {a b : Nat} {x : List UInt8 × Nat × Nat} (h : x = (l, a, b)) : Ending.returned (.tuple #[.string ⟨l.toArray⟩, .int .i64 a, .int .i64 b]) = Ending.returned (.tuple #[.string ⟨x.1.toArray⟩, .int .i64 x.2.1, .int .i64 x.2.2]) := by rw [h]
theorem quoted_any (s : ByteArray) (w : World) (h1 : 0 < s.size) (hs : s.size ≤ 100000000000) :
    Calls Tryd.prog 20 #[.string s] w fun e w' => e = .returned (.tuple #[.string ⟨(quotR ((L s).drop 1)).1.toArray⟩, .int .i64 (quotR ((L s).drop 1)).2.1, .int .i64 (quotR ((L s).drop 1)).2.2]) ∧ Below w.heap.size w w' := by
  have hm : s.size ≤ maxLen := by simp only [maxLen]; omega
  go_enter Tryd.func20, Tryd.ntmps20
  go_wp2_with fail
  go_loopw [5, 6, 7, 8, 9, 10, 11, 12, 13, 14] (fun v i _ _ _ _ _ _ _ _ wr => ∃ (k : Nat) (acc : List UInt8), 1 ≤ k ∧ k ≤ s.size ∧ i = .int .i64 k ∧ acc.length ≤ 4 * k ∧ wr.ownsRow w.heap.size 5 1 v acc.length (acc.map bv) ∧ Hid (quotR ((L s).drop 1) = quotFin acc k (quotL ((L s).drop k))) ∧ Below w.heap.size w wr) (fun _ i _ _ _ _ _ _ _ _ _ => s.size - (intOf i).toNat)
  case atStart => exact ⟨1, [], Nat.le_refl _, h1, rfl, by simp, World.ownsRow_nil _ _ _ _, rfl, Below.refl _ _⟩
  case round =>
    obtain ⟨k, acc, hk1, hk, rfl, hal, hown, HR, hbw⟩ := hrel
    by_cases hlt : k < s.size
    case neg =>
      have HF : Hid (quotR ((L s).drop 1) = ([], 0, 4)) := by unfold Hid; rw [HR.out, L_drop_nil s k (by omega)]; rfl
      clear HR hown
      go_wp2_with fail
      go_ret3
      exact ⟨ret3_str HF.out, hbw⟩
    have hQ := quotL_cons s[k] ((L s).drop (k + 1))
    rw [← L_drop s k hlt] at hQ
    have HQ := Lib.hid hQ; clear hQ
    by_cases h34 : s[k].toNat = 34
    · have g : ((s[k].toNat : Int) == 34) = true := by rw [beq_iff_eq]; omega
      have HF : Hid (quotR ((L s).drop 1) = (acc, k + 1, 0)) := by unfold Hid; rw [HR.out, HQ.out, if_pos h34]; simp [quotFin]
      have hcv := conv_own bytesT hown
      clear h34 HR HQ hown
      go_wp2_with fail
      go_ret3
      exact ⟨ret3_str HF.out, hbw⟩
    have g34 : ((s[k].toNat : Int) == 34) = false := by rw [beq_eq_false_iff_ne]; omega
    by_cases h92 : s[k].toNat = 92
    · have g92 : ((s[k].toNat : Int) == 92) = true := by rw [beq_iff_eq]; omega
      have HE : Hid (quotR ((L s).drop 1) = quotFin acc k (if (escL (L (s.extract (k + 1) s.size))).2.2 ≠ 0 then ([], 0, (escL (L (s.extract (k + 1) s.size))).2.2) else quotFin (enc (escL (L (s.extract (k + 1) s.size))).1) (1 + (escL (L (s.extract (k + 1) s.size))).2.1) (quotL ((L (s.extract (k + 1) s.size)).drop (escL (L (s.extract (k + 1) s.size))).2.1)))) := by
        unfold Hid; rw [HR.out, HQ.out, if_neg h34, if_pos h92, L_from]
      have hok := escL_ok (L (s.extract (k + 1) s.size))
      have HOK := Lib.hid hok; clear hok
      have hx := ext_size s (k + 1)
      have HX := Lib.hid hx; clear hx
      clear h34 h92 HR HQ
      go_wp2_with fail
      refine (esc_any _ _ (by rw [HX.out]; omega)).mono ?_
      rintro e w1 ⟨⟨r, n, rfl, hrn⟩, hb1⟩
      have HN := Lib.hid hrn; clear hrn
      have hown1 := own_below hown hb1
      have hbw1 : Below w.heap.size w w1 := hbw.trans (hb1.mono hbw.size)
      clear hown hbw hb1
      by_cases hz : (escL (L (s.extract (k + 1) s.size))).2.2 = 0
      case neg =>
        have e1 : (((escL (L (s.extract (k + 1) s.size))).2.2 : Int) != 0) = true := by rw [bne_iff_ne]; omega
        have HF : Hid (quotR ((L s).drop 1) = ([], 0, (escL (L (s.extract (k + 1) s.size))).2.2)) := by unfold Hid; rw [HE.out, if_pos hz, quotFin, if_pos hz]
        clear hz HE
        go_wp2_with fail
        go_ret3
        exact ⟨ret3_str HF.out, hbw1⟩
      have e1 : (((escL (L (s.extract (k + 1) s.size))).2.2 : Int) != 0) = false := by rw [bne_eq_false_iff_eq]; omega
      obtain ⟨hsc, hn1, hn2⟩ := HOK.out hz
      obtain ⟨hr, hn⟩ := HN.out hz
      rw [← hr] at hsc
      rw [← hn] at hn1 hn2
      rw [L_len, HX.out] at hn2
      have HF : Hid (quotR ((L s).drop 1) = quotFin (acc ++ enc r) (k + 1 + n) (quotL ((L s).drop (k + 1 + n)))) := by
        unfold Hid
        rw [HE.out, if_neg (by simpa using hz), quotFin_fin, ← hr, ← hn, L_from, List.drop_drop]
        congr 1
        omega
      clear HE HN HOK hr hn
      have HZ := Lib.hid hz; clear hz
      go_wp2_with fail
      refine (Encode_any r _ hsc).mono ?_
      rintro e w2 ⟨rfl, hb2⟩
      have hown2 := own_below hown1 hb2
      have hbw2 : Below w.heap.size w w2 := hbw1.trans (hb2.mono hbw1.size)
      have hz2 : w.heap.size ≤ w2.heap.size := hbw2.size
      have hel : (⟨(enc r).toArray⟩ : ByteArray).size ≤ 4 := by
        rw [← L_len, L_mk, enc_len]; exact wid_le r
      clear hown1 hbw1 hb2
      go_wp2_with (at_builtin; refine wp_pushS bytesT rfl _ _ rfl hown2 ⟨(enc r).toArray⟩ rfl rfl (by omega) hz2 ?_; intro v' w3 hown3 hg3 hb3)
      have hle : acc.length + (⟨(enc r).toArray⟩ : ByteArray).size = (acc ++ enc r).length := by rw [List.length_append, ← L_len, L_mk]
      rw [hle, L_mk] at hown3
      refine ⟨⟨k + (1 + n), acc ++ enc r, by omega, by omega, rfl, by rw [← hle]; omega, hown3, ?_, hbw2.trans hb3⟩, by simp [intOf]; omega⟩
      rw [show k + (1 + n) = k + 1 + n by omega]
      exact HF
    have g92 : ((s[k].toNat : Int) == 92) = false := by rw [beq_eq_false_iff_ne]; omega
    have HE : Hid (quotR ((L s).drop 1) = quotFin acc k (if s[k].toNat < 32 ∨ (dec ((L s).drop k)).2 = 0 then ([], 0, 5) else quotFin (((L s).drop k).take (dec ((L s).drop k)).2) (dec ((L s).drop k)).2 (quotL (((L s).drop k).drop (dec ((L s).drop k)).2)))) := by
      unfold Hid; rw [HR.out, HQ.out, if_neg h34, if_neg h92]
    clear h34 h92 HR HQ
    have hle := dec_le ((L s).drop k)
    rw [List.length_drop, L_len] at hle
    by_cases hbadc : s[k].toNat < 32 ∨ (dec ((L s).drop k)).2 = 0
    · have HF : Hid (quotR ((L s).drop 1) = ([], 0, 5)) := by unfold Hid; rw [HE.out, if_pos hbadc]; rfl
      clear HE hown
      by_cases h32 : s[k].toNat < 32
      · have g : (s[k].toNat : Int) < 32 := by omega
        clear h32 hbadc
        go_wp2_with (go_at_call 39; refine (Decode_any s k _ hm).mono ?_; rintro e w' ⟨rfl, rfl⟩)
        go_ret3
        exact ⟨ret3_str HF.out, hbw⟩
      · have g : ¬ (s[k].toNat : Int) < 32 := by omega
        have hz : (((dec ((L s).drop k)).2 : Int) == 0) = true := by rw [beq_iff_eq]; omega
        clear h32 hbadc
        go_wp2_with (go_at_call 39; refine (Decode_any s k _ hm).mono ?_; rintro e w' ⟨rfl, rfl⟩)
        go_ret3
        exact ⟨ret3_str HF.out, hbw⟩
    · have g : ¬ (s[k].toNat : Int) < 32 := by omega
      have hz : (((dec ((L s).drop k)).2 : Int) == 0) = false := by rw [beq_eq_false_iff_ne]; omega
      have hn1 : 1 ≤ (dec ((L s).drop k)).2 := by omega
      have HF : Hid (quotR ((L s).drop 1) = quotFin (acc ++ ((L s).drop k).take (dec ((L s).drop k)).2) (k + (dec ((L s).drop k)).2) (quotL ((L s).drop (k + (dec ((L s).drop k)).2)))) := by
        unfold Hid; rw [HE.out, if_neg hbadc, quotFin_fin, List.drop_drop]
      have hn4 : (dec ((L s).drop k)).2 ≤ 4 := by
        rcases dec_cases ((L s).drop k) with h | ⟨_, _, h, _, _, _, h4, _⟩ <;> rw [h]
        · exact Nat.zero_le _
        · exact h4
      clear HE hbadc
      have hz2 : w.heap.size ≤ wr.heap.size := hbw.size
      generalize hnn : (dec ((L s).drop k)).2 = n at *
      have HNN := Lib.hid hnn; clear hnn
      have hsz : (s.extract k (k + n)).size ≤ 4 := by rw [ByteArray.size_extract]; omega
      go_wp2_with (first | (go_at_call 39; refine (Decode_any s k _ hm).mono ?_; rintro e w' ⟨rfl, rfl⟩; rw [HNN.out]) | (at_builtin; refine wp_pushS bytesT rfl _ _ rfl hown (s.extract k (k + n)) rfl rfl (by omega) hz2 ?_; intro v' w3 hown3 hg3 hb3))
      have he : L (s.extract k (k + n)) = ((L s).drop k).take n := by rw [L_extract, Nat.add_sub_cancel_left]
      have hle2 : acc.length + (s.extract k (k + n)).size = (acc ++ ((L s).drop k).take n).length := by rw [List.length_append, ← L_len, he]
      rw [hle2, he] at hown3
      exact ⟨⟨k + n, acc ++ ((L s).drop k).take n, by omega, by omega, rfl, by rw [← hle2]; omega, hown3, HF, hbw.trans hb3⟩, by simp [intOf]; omega⟩
end Go.Proofs.YtmafggfonapmpaaDoor
