/- The package datakitlaw08, walked: lives. Conditions: the variables of strconv and math/bits read as laid. -/
import Derived.Test.YtjbhjnelepbkcaaDoorPs6
namespace Go.Proofs.YtjbhjnelepbkcaaDoor
open Go.RowKit Go.Shelf
set_option maxHeartbeats 2000000
set_option maxRecDepth 100000

def livP : List St := [(false, ⟨#[97]⟩, 0), (true, ⟨#[]⟩, 0), (false, ⟨#[120, 32, 121]⟩, 0)]
theorem itoa_dig (n : Nat) (h : n < 10) : Lib.itoa (n : Int) = [UInt8.ofNat (48 + n)] := by
  unfold Lib.itoa
  rw [if_neg (by omega)]
  show Lib.decDigits n = _
  rw [Lib.decDigits, dif_pos h]
theorem liv_text : textL livP = [46, 97, 91, 48, 93, 46, 34, 120, 32, 121, 34] := by
  have h1 : stepT (false, ⟨#[97]⟩, 0) = [46, 97] := by decide +kernel
  have h3 : stepT (false, ⟨#[120, 32, 121]⟩, 0) = [46, 34, 120, 32, 121, 34] := by decide +kernel
  have h2 : stepT (true, ⟨#[]⟩, 0) = [91, 48, 93] := by
    unfold stepT
    simp only [if_true]
    rw [show (0 : Int) = ((0 : Nat) : Int) from rfl, itoa_dig 0 (by decide)]
    rfl
  unfold textL livP
  rw [if_neg (by simp)]
  simp only [List.flatMap_cons, List.flatMap_nil, h1, h2, h3]
  rfl
theorem liv_valid : validP livP = true := by decide +kernel
theorem liv_parse : parseL (L ⟨#[46, 97, 91, 48, 93, 46, 34, 120, 32, 121, 34]⟩) = (livP, 0) := by
  rw [show L ⟨#[46, 97, 91, 48, 93, 46, 34, 120, 32, 121, 34]⟩ = textL livP by rw [liv_text]; rfl]
  exact parse_text livP liv_valid
theorem liv_bad : parseL (L ⟨#[46, 91, 48, 49, 93]⟩) = ([], 3) := by
  have hb : badL (L ⟨#[46, 91, 48, 49, 93]⟩) = (L ⟨#[46, 91, 48, 49, 93]⟩).length := by decide +kernel
  have hl : loopI 49 0 (strip (L ⟨#[46, 91, 48, 49, 93]⟩)) = some [(true, ⟨#[]⟩, 1)] := by decide +kernel
  have ht : textL [(true, ⟨#[]⟩, 1)] = [46, 91, 49, 93] := by
    unfold textL
    rw [if_neg (by simp)]
    simp only [List.flatMap_cons, List.flatMap_nil]
    unfold stepT
    simp only [if_true]
    rw [show (1 : Int) = ((1 : Nat) : Int) from rfl, itoa_dig 1 (by decide)]
    rfl
  unfold parseL
  rw [if_neg (by rw [hb]; simp), if_neg (by decide), hl]
  unfold accept
  simp only []
  rw [if_neg]
  rintro ⟨_, _, h⟩
  rw [ht] at h
  exact absurd h (by decide)
theorem lives_any (w : World) (he : Env w) :
    Calls Tryd.prog 9 #[] w fun e w' => e = .returned (.bool true) ∧ Below w.heap.size w w' := by
  have HE := Lib.hid he; clear he
  have hT1 : (⟨(textL livP).toArray⟩ : ByteArray) = ⟨#[46, 97, 91, 48, 93, 46, 34, 120, 32, 121, 34]⟩ := by rw [liv_text]
  have HT1 := Lib.hid hT1; clear hT1
  have HP1 := Lib.hid liv_parse
  have HP2 := Lib.hid liv_bad
  go_enter Tryd.func9, Tryd.ntmps9
  go_wp2_with fail
  refine (Key_any _ _).mono ?_
  rintro e w1 ⟨rfl, hb1⟩
  go_wp2_with fail
  refine (At_any _ _).mono ?_
  rintro e w2 ⟨rfl, hb2⟩
  have hb2 : Below w.heap.size w w2 := hb1.trans (hb2.mono hb1.size)
  go_wp2_with fail
  refine (Key_any _ _).mono ?_
  rintro e w3 ⟨rfl, hb3⟩
  have hb3 : Below w.heap.size w w3 := hb2.trans (hb3.mono hb2.size)
  clear hb1 hb2
  have hb4 : Below w.heap.size w (w3.alloc (.cells #[.bool false, .string ⟨#[97]⟩, .int .i64 0, .bool true, .string ⟨#[]⟩, .int .i64 0, .bool false, .string ⟨#[120, 32, 121]⟩, .int .i64 0] 26)) := hb3.alloc hb3.size _
  have hC : Rd (w3.alloc (.cells #[.bool false, .string ⟨#[97]⟩, .int .i64 0, .bool true, .string ⟨#[]⟩, .int .i64 0, .bool false, .string ⟨#[120, 32, 121]⟩, .int .i64 0] 26)) (.slice (some ⟨w3.heap.size, 0, none⟩) 3 3) livP := by
    refine ⟨some ⟨w3.heap.size, 0, none⟩, 3, rfl, Nat.le_refl _, by simp only [maxLen]; decide, (fun h => by cases h), fun _ => ⟨w3.heap.size, 0, rfl, by simp, fun i hi => ?_⟩⟩
    rcases i with _ | _ | _ | i
    · exact ⟨by rw [cell_of_alloc]; rfl, by rw [cell_of_alloc]; rfl, by rw [cell_of_alloc]; rfl⟩
    · exact ⟨by rw [cell_of_alloc]; rfl, by rw [cell_of_alloc]; rfl, by rw [cell_of_alloc]; rfl⟩
    · exact ⟨by rw [cell_of_alloc]; rfl, by rw [cell_of_alloc]; rfl, by rw [cell_of_alloc]; rfl⟩
    · exact absurd hi (by simp [livP])
  have HB4 := Lib.hid hb4
  have HRC := Lib.hid hC
  clear hb4 hC hb3
  go_wp2_with fail
  generalize w3.alloc (.cells #[.bool false, .string ⟨#[97]⟩, .int .i64 0, .bool true, .string ⟨#[]⟩, .int .i64 0, .bool false, .string ⟨#[120, 32, 121]⟩, .int .i64 0] 26) = w4 at *
  generalize w3.heap.size = G at *
  refine (Parse_any _ _ (by decide) (HE.out.below HB4.out)).mono ?_
  rintro e w5 ⟨v5, rfl, hown5, hb5⟩
  rw [HP1.out] at hown5 ⊢
  have hb5' : Below w.heap.size w w5 := HB4.out.trans (hb5.mono HB4.out.size)
  have hrp5 := HRC.out.below hb5
  have hrq5 := Rd.of_own hown5
  clear hb5 hown5 HRC HB4
  go_wp2_with fail
  refine (Parse_any _ _ (by decide) (HE.out.below hb5')).mono ?_
  rintro e w6 ⟨v6, rfl, hown6, hb6⟩
  rw [HP2.out] at hown6 ⊢
  have hb6' : Below w.heap.size w w6 := hb5'.trans (hb6.mono hb5'.size)
  have hrp6 := hrp5.below hb6
  have hrq6 := hrq5.below hb6
  clear hb6 hown6 hrp5 hrq5 hb5'
  have HRP := Lib.hid hrp6; clear hrp6
  have HRQ := Lib.hid hrq6; clear hrq6
  go_wp2_with fail
  refine (PText_any _ livP _ HRP.out liv_valid (HE.out.below hb6')).mono ?_
  rintro e w7 ⟨rfl, hb7⟩
  rw [HT1.out]
  have hb7' : Below w.heap.size w w7 := hb6'.trans (hb7.mono hb6'.size)
  have HRP7 := Lib.hid (HRP.out.below hb7)
  have HRQ7 := Lib.hid (HRQ.out.below hb7)
  clear hb7 HRP HRQ hb6'
  go_wp2_with fail
  refine (PEqual_any _ _ livP livP _ HRP7.out HRQ7.out).mono ?_
  rintro e w8 ⟨rfl, hb8⟩
  have hb8' : Below w.heap.size w w8 := hb7'.trans (hb8.mono hb7'.size)
  rw [decide_eq_true (rfl : livP = livP)]
  clear hb8 hb7' HRP7 HRQ7
  go_wp2_with fail
  refine (PText_any _ [] _ Rd.nil rfl (HE.out.below hb8')).mono ?_
  rintro e w9 ⟨rfl, hb9⟩
  rw [show (⟨(textL []).toArray⟩ : ByteArray) = ⟨#[46]⟩ from rfl]
  go_wp2_with fail
  go_ret
  exact ⟨rfl, hb8'.trans (hb9.mono hb8'.size)⟩
end Go.Proofs.YtjbhjnelepbkcaaDoor
