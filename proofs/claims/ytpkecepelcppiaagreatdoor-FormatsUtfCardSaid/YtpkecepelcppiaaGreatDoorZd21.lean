/- datakitref15.letter walked; printed by gen_rpb.py. Conditions: strings of at most 10^8 bytes. -/
import Derived.Test.YtpkecepelcppiaaGreatDoorZd20
import Derived.RegionTactic
import Derived.BigRegion
import Derived.Test.YtpkecepelcppiaaGreatDoorZd17
import Derived.Test.YtpkecepelcppiaaGreatDoorZd11
namespace Go.Proofs.YtpkecepelcppiaaGreatDoor
open Go.RowKit Go.Shelf
set_option maxHeartbeats 4000000
set_option maxRecDepth 100000

end Go.Proofs.YtpkecepelcppiaaGreatDoor

namespace Go.Proofs.YtpkecepelcppiaaGreatDoor
open Go.RowKit Go.Shelf
set_option maxHeartbeats 4000000
set_option maxRecDepth 100000

theorem conv_at (w : World) (k : Nat) (a : Int) (h : w.heap[k]? = some (.cells #[.int .u8 a] 5)) : (convert 56 9 (.slice (some ⟨k, 0, none⟩) 1 1)).run Tryz.prog w = .ok (.string ⟨#[UInt8.ofNat a.toNat]⟩) w := by
 refine run_convert_bytes_arg (P := Tryz.prog) _ 56 5 Tryz.underlying56 Tryz.underlying5 k 0 1 1 [a] rfl (fun i hi => ?_) 9 Tryz.underlying9
 obtain rfl : i = 0 := by simp at hi; omega
 exact cell_of_row w k _ _ _ (0, 0) h
theorem hexI_le (c : Int) (hc : -1 ≤ c ∧ c ≤ 255) : -1 ≤ hexI c ∧ hexI c ≤ 15 := by
 unfold hexI
 split
 ·omega
 split
 ·omega
 ·omega
theorem letter_any (s : ByteArray) (i : Nat) (hs : s.size ≤ 100000000) (hi : i ≤ 100000100) (w : World) :
  Calls Tryz.prog 180 #[.string s, .int .i64 (i : Int)] w fun e w' => LetO s i (oneQ ((L s).drop i)) e ∧ Below w.heap.size w w' := by
 have hsi : (s.size : Int) ≤ 100000000 := by omega
 have hii : (i : Int) ≤ 100000100 := by omega
 have HA0 := Lib.hid (fun w' => at_any s i hs (by omega) w')
 have HA1 := Lib.hid (fun w' => show Calls Tryz.prog 101 #[.string s, .int .i64 ((i : Int) + 1)] w' fun e w'' => e = .returned (.int .i64 (hdI ((L s).drop (i + 1)))) ∧ w' = w'' from by
  have := at_any s (i + 1) hs (by omega) w'
  rwa [show ((i + 1 : Nat) : Int) = (i : Int) + 1 by omega] at this)
 have HA2 := Lib.hid (fun w' => show Calls Tryz.prog 101 #[.string s, .int .i64 ((i : Int) + 2)] w' fun e w'' => e = .returned (.int .i64 (hdI ((L s).drop (i + 2)))) ∧ w' = w'' from by
  have := at_any s (i + 2) hs (by omega) w'
  rwa [show ((i + 2 : Nat) : Int) = (i : Int) + 2 by omega] at this)
 have HA3 := Lib.hid (fun w' => show Calls Tryz.prog 101 #[.string s, .int .i64 ((i : Int) + 3)] w' fun e w'' => e = .returned (.int .i64 (hdI ((L s).drop (i + 3)))) ∧ w' = w'' from by
  have := at_any s (i + 3) hs (by omega) w'
  rwa [show ((i + 3 : Nat) : Int) = (i : Int) + 3 by omega] at this)
 have HS := Lib.hid hs
 have HI := Lib.hid hi
 clear hs hi
 go_enter Tryz.func180, Tryz.ntmps180
 go_wp2_with fail
 refine (HA0.out w).mono ?_
 rintro e w1 ⟨rfl, rfl⟩
 cases hl : (L s).drop i with
 | nil =>
  have HOK : Hid (LetO s i (oneQ ((L s).drop i)) (.returned (.tuple #[.int .i64 (-1), .int .i64 (i : Int)]))) := by rw [hl]; rfl
  rw [show hdI [] = -1 from rfl]
  have HBW : Hid (Below w.heap.size w w.drew) := drewBn w
  clear hl
  go_upto_region 3 with fail
  refine wpq_region (fun _ => True) 10 (by kernel_rfl) trivial (fun hHeld => ?_)
  generalize w.drew = wd at *
  refine wpq_tk 0 (some 14) [1, 2, 10] (Or.inl ⟨by rfl, fun w hSw => by (go_simp; with_reducible rfl)⟩) hHeld ?_ rfl rfl
  simp only [Act.put, sA, sZ, sS]
  refine wpq_tk 1 (some 15) [2, 10] (Or.inl ⟨by rfl, fun w hSw => by (go_simp; with_reducible rfl)⟩) hHeld ?_ rfl rfl
  simp only [Act.put, sA, sZ, sS]
  refine wpq_one 2 (by kernel_rfl) rfl (fun K hK => ?_)
  go_simp
  refine hK.out _ _ trivial (fun hHeld => ?_)
  clear hK K
  refine wpq_tk 3 (some 17) [4, 9, 10] (Or.inr ⟨by rfl, rfl⟩) hHeld ?_ rfl rfl
  simp only [Act.put, sA, sZ, sS]
  refine wpq_tk 5 (some 19) [6, 7, 8, 9, 10] (Or.inr ⟨by rfl, rfl⟩) hHeld ?_ rfl rfl
  simp only [Act.put, sA, sZ, sS]
  refine wpq_tk 6 (some 20) [7, 8, 9, 10] (Or.inr ⟨by rfl, rfl⟩) hHeld ?_ rfl rfl
  simp only [Act.put, sA, sZ, sS]
  refine wpq_two 4 7 (by kernel_rfl) rfl rfl (fun K hK => ?_) (fun K hK => ?_)
  ·go_simp
   refine hK.out _ _ trivial (fun hHeld => ?_)
   clear hK K
   refine wpq_one 7 (by kernel_rfl) rfl (fun K hK => ?_)
   go_simp
   refine hK.out _ _ trivial (fun hHeld => ?_)
   clear hK K
   refine wpq_one 8 (by kernel_rfl) rfl (fun K hK => ?_)
   go_simp
   refine hK.out _ _ trivial (fun hHeld => ?_)
   clear hK K
   refine wpq_one 9 (by kernel_rfl) rfl (fun K hK => ?_)
   go_simp
   refine hK.out _ _ trivial (fun hHeld => ?_)
   clear hK K
   refine wpq_end 10 (by kernel_rfl) rfl (by kernel_rfl) (fun K hK => ?_)
   go_simp
   refine hK.out _ _ ?_
   clear hK K
   refine wpq_done (by kernel_rfl) ?_ _
   go_simp
   go_wp2_with fail
   go_ret2
   exact ⟨HOK.out, HBW.out⟩
  ·go_simp
   refine hK.out _ _ trivial (fun hHeld => ?_)
   clear hK K
   refine wpq_two 4 8 (by kernel_rfl) rfl rfl (fun K hK => ?_) (fun K hK => ?_)
   ·go_simp
    refine hK.out _ _ trivial (fun hHeld => ?_)
    clear hK K
    refine wpq_one 8 (by kernel_rfl) rfl (fun K hK => ?_)
    go_simp
    refine hK.out _ _ trivial (fun hHeld => ?_)
    clear hK K
    refine wpq_one 9 (by kernel_rfl) rfl (fun K hK => ?_)
    go_simp
    refine hK.out _ _ trivial (fun hHeld => ?_)
    clear hK K
    refine wpq_end 10 (by kernel_rfl) rfl (by kernel_rfl) (fun K hK => ?_)
    go_simp
    refine hK.out _ _ ?_
    clear hK K
    refine wpq_done (by kernel_rfl) ?_ _
    go_simp
    go_wp2_with fail
    go_ret2
    exact ⟨HOK.out, HBW.out⟩
   ·go_simp
    refine hK.out _ _ trivial (fun hHeld => ?_)
    clear hK K
    refine wpq_one 4 (by kernel_rfl) rfl (fun K hK => ?_)
    go_simp
    refine hK.out _ _ trivial (fun hHeld => ?_)
    clear hK K
    refine wpq_one 9 (by kernel_rfl) rfl (fun K hK => ?_)
    go_simp
    refine hK.out _ _ trivial (fun hHeld => ?_)
    clear hK K
    refine wpq_end 10 (by kernel_rfl) rfl (by kernel_rfl) (fun K hK => ?_)
    go_simp
    refine hK.out _ _ ?_
    clear hK K
    refine wpq_done (by kernel_rfl) ?_ _
    go_simp
    go_wp2_with fail
    go_ret2
    exact ⟨HOK.out, HBW.out⟩
 | cons b t =>
  have hilt : i < s.size := by
   rcases Nat.lt_or_ge i s.size with h | h
   ·exact h
   ·rw [List.drop_of_length_le (by rw [L_len]; exact h)] at hl
    cases hl
  have hdr : ∀ j, (L s).drop (i + j) = (b :: t).drop j := fun j => by rw [← hl, List.drop_drop]
  obtain ⟨c, hc⟩ : ∃ c, c = b.toNat := ⟨_, rfl⟩
  have hcb : c ≤ 255 := by have := b.toNat_lt; omega
  rw [show hdI (b :: t) = (c : Int) by rw [hc]; rfl]
  have HCB := Lib.hid hcb
  by_cases h92 : c = 92
  ·have hb92 : b = 92 := by
    rw [← UInt8.ofNat_toNat (x := b), ← hc, h92]
    rfl
   have h1 := hdr 1
   have h2 := hdr 2
   have h3 := hdr 3
   have HK4 : Hid (3 ≤ t.length → (L s).drop (i + 4) = t.drop 3 ∧ i + 4 ≤ s.size) := by
    intro h
    refine ⟨hdr 4, ?_⟩
    have := congrArg List.length hl
    rw [List.length_drop, L_len, List.length_cons] at this
    omega
   rw [show ((b :: t).drop 1) = t from rfl] at h1
   rw [show ((b :: t).drop 2) = t.drop 1 from rfl] at h2
   rw [show ((b :: t).drop 3) = t.drop 2 from rfl] at h3
   rw [h1] at HA1
   rw [h2] at HA2
   rw [h3] at HA3
   have HX2 := Lib.hid (fun w' => hexI_any (hdI (t.drop 1)) (hdI_le _) w')
   have HX3 := Lib.hid (fun w' => hexI_any (hdI (t.drop 2)) (hdI_le _) w')
   have HYES : Hid (t.head? = some 120 → ∀ a2 a3, t[1]?.bind hexQ = some a2 → t[2]?.bind hexQ = some a3 → oneQ ((L s).drop i) = some (a2 * 16 + a3, t.drop 3)) := by
    intro g1 a2 a3 g2 g3
    rw [hl, oneQ, if_pos hb92, if_pos g1, g2, g3]
   have HNO : Hid ((t.head? ≠ some 120 ∨ t[1]?.bind hexQ = none ∨ t[2]?.bind hexQ = none) → oneQ ((L s).drop i) = none) := by
    intro g
    rw [hl, oneQ, if_pos hb92]
    split
    ·rename_i h120
     rcases g with g | g | g
     ·exact absurd h120 g
     ·rw [g]
     ·rw [g]
      cases t[1]?.bind hexQ <;> rfl
    ·rfl
   have HH : Hid (∀ j, hexI (hdI (t.drop j)) = match t[j]?.bind hexQ with | none => -1 | some a => (a : Int)) := by
    intro j
    rw [hdI_at]
    cases t[j]? with
    | none => rfl
    | some x => exact hexQ_I x
   subst h92
   clear hc hcb hl hdr h1 h2 h3
   have h120 : (hdI t = 120) ↔ t.head? = some 120 := by
    cases t with
    | nil => exact ⟨fun h => (by cases h), fun h => (by cases h)⟩
    | cons x u =>
     show ((x.toNat : Int) = 120) ↔ some x = some 120
     constructor
     ·intro h
      have h2 : x.toNat = 120 := by omega
      rw [← UInt8.ofNat_toNat (x := x), h2]
      rfl
     ·intro h
      cases h
      rfl
   have H120 := Lib.hid h120
   clear h120
   obtain ⟨A, hA⟩ : ∃ A, A = hexI (hdI (t.drop 1)) := ⟨_, rfl⟩
   obtain ⟨B, hB⟩ : ∃ B, B = hexI (hdI (t.drop 2)) := ⟨_, rfl⟩
   obtain ⟨C, hC⟩ : ∃ C, C = hdI t := ⟨_, rfl⟩
   have HAE : Hid (A = match t[1]?.bind hexQ with | none => -1 | some a => (a : Int)) := hA.trans (HH.out 1)
   have HBE : Hid (B = match t[2]?.bind hexQ with | none => -1 | some a => (a : Int)) := hB.trans (HH.out 2)
   have hA1 := hexI_le (hdI (t.drop 1)) (hdI_le _)
   have hB1 := hexI_le (hdI (t.drop 2)) (hdI_le _)
   rw [← hA] at HX2 hA1
   rw [← hB] at HX3 hB1
   rw [← hC] at HA1 H120
   have h3l : Hid (∀ a, t[2]?.bind hexQ = some a → 3 ≤ t.length) := by
    intro a h
    rcases Nat.lt_or_ge 2 t.length with h2 | h2
    ·exact h2
    ·rw [List.getElem?_eq_none h2] at h
     cases h
   clear hA hB hC HH
   generalize hdI (t.drop 1) = D2 at *
   generalize hdI (t.drop 2) = D3 at *
   go_wp2_with fail
   refine (HA2.out w).mono ?_
   rintro e w1 ⟨rfl, rfl⟩
   go_wp2_with fail
   refine (HX2.out w).mono ?_
   rintro e w1 ⟨rfl, rfl⟩
   go_wp2_with fail
   refine (HA3.out w).mono ?_
   rintro e w1 ⟨rfl, rfl⟩
   go_wp2_with fail
   refine (HX3.out w).mono ?_
   rintro e w1 ⟨rfl, rfl⟩
   go_wp2_with fail
   refine (HA1.out w).mono ?_
   rintro e w1 ⟨rfl, rfl⟩
   by_cases hc1 : C = 120
   case neg =>
    have e1 : (C != 120) = true := bne_iff_ne.2 hc1
    have HOK : Hid (LetO s i (oneQ ((L s).drop i)) (.returned (.tuple #[.int .i64 (-1), .int .i64 (i : Int)]))) := by
     unfold Hid
     rw [HNO.out (.inl (fun h => hc1 (H120.out.2 h)))]
     rfl
    clear hc1
    go_wp2_with fail
    go_ret2
    exact ⟨HOK.out, Below.refl _ _⟩
   case pos =>
    have HY1 := Lib.hid (HYES.out (H120.out.1 hc1))
    subst hc1
    by_cases hA0 : A < 0
    ·have HOK : Hid (LetO s i (oneQ ((L s).drop i)) (.returned (.tuple #[.int .i64 (-1), .int .i64 (i : Int)]))) := by
      unfold Hid
      rw [HNO.out (.inr (.inl (by
       cases h : t[1]?.bind hexQ with
       | none => rfl
       | some a =>
        have h2 := HAE.out
        rw [h] at h2
        simp only at h2
        omega)))]
      rfl
     clear hA1 hB1
     go_wp2_with fail
     go_ret2
     exact ⟨HOK.out, Below.refl _ _⟩
    by_cases hB0 : B < 0
    ·have HOK : Hid (LetO s i (oneQ ((L s).drop i)) (.returned (.tuple #[.int .i64 (-1), .int .i64 (i : Int)]))) := by
      unfold Hid
      rw [HNO.out (.inr (.inr (by
       cases h : t[2]?.bind hexQ with
       | none => rfl
       | some a =>
        have h2 := HBE.out
        rw [h] at h2
        simp only at h2
        omega)))]
      rfl
     clear hA1 hB1
     go_wp2_with fail
     go_ret2
     exact ⟨HOK.out, Below.refl _ _⟩
    have HOK : Hid (LetO s i (oneQ ((L s).drop i)) (.returned (.tuple #[.int .i64 (A * 16 + B), .int .i64 ((i : Int) + 4)]))) := by
     unfold Hid
     have h2 := HAE.out
     have h3 := HBE.out
     cases g2 : t[1]?.bind hexQ with
     | none => rw [g2] at h2; simp only at h2; omega
     | some a =>
      cases g3 : t[2]?.bind hexQ with
      | none => rw [g3] at h3; simp only at h3; omega
      | some b2 =>
       rw [g2] at h2
       rw [g3] at h3
       simp only at h2 h3
       rw [HY1.out a b2 g2 g3]
       obtain ⟨k1, k2⟩ := HK4.out (h3l.out b2 g3)
       refine ⟨i + 4, by omega, k2, k1, by omega, ?_⟩
       rw [h2, h3]
       rfl
    have hm : A * 16 ≤ 240 := by omega
    have hm0 : 0 ≤ A * 16 := by omega
    go_wp2_with fail
    go_ret2
    exact ⟨HOK.out, Below.refl _ _⟩
  ·have e92 : ((c : Int) != 92) = true := bne_iff_ne.2 (by omega)
   have hci : (0 : Int) ≤ (c : Int) := by omega
   have hmod : (c : Int) % 256 = c := by omega
   have hwu : IntKind.u8.wrap (c : Int) = c := by rw [IntKind.wrap_u8]; exact hmod
   have HYES : Hid (byteT c = [UInt8.ofNat c] → LetO s i (oneQ ((L s).drop i)) (.returned (.tuple #[.int .i64 (c : Int), .int .i64 ((i : Int) + 1)]))) := by
    intro hq
    have hbc : UInt8.ofNat c = b := by rw [hc]; exact UInt8.ofNat_toNat
    rw [hl, oneQ, if_neg (fun h => h92 (by rw [hc, h]; rfl)), if_pos (by rw [← hc, hq, hbc])]
    exact ⟨i + 1, by omega, by omega, (hdr 1).trans rfl, by omega, by rw [← hc]; rfl⟩
   have HNO : Hid (¬ byteT c = [UInt8.ofNat c] → LetO s i (oneQ ((L s).drop i)) (.returned (.tuple #[.int .i64 (-1), .int .i64 (i : Int)]))) := by
    intro hq
    have hbc : UInt8.ofNat c = b := by rw [hc]; exact UInt8.ofNat_toNat
    rw [hl, oneQ, if_neg (fun h => h92 (by rw [hc, h]; rfl)), if_neg (fun h => hq (by rw [hc, h, ← hc, hbc]))]
    rfl
   clear hc hcb hl h92 hdr
   have HBW : Hid (Below w.heap.size w w.drew) := drewBn w
   go_upto_region 3 with fail
   refine wpq_region (fun _ => True) 10 (by kernel_rfl) trivial (fun hHeld => ?_)
   generalize w.drew = wd at *
   refine wpq_tk 0 (some 14) [1, 2, 10] (Or.inl ⟨by rfl, fun w hSw => by (go_simp; with_reducible rfl)⟩) hHeld ?_ rfl rfl
   simp only [Act.put, sA, sZ, sS]
   refine wpq_tk 1 (some 15) [2, 10] (Or.inl ⟨by rfl, fun w hSw => by (go_simp; with_reducible rfl)⟩) hHeld ?_ rfl rfl
   simp only [Act.put, sA, sZ, sS]
   refine wpq_one 2 (by kernel_rfl) rfl (fun K hK => ?_)
   go_simp
   refine hK.out _ _ trivial (fun hHeld => ?_)
   clear hK K
   refine wpq_tk 3 (some 17) [4, 9, 10] (Or.inl ⟨by rfl, fun w hSw => by (go_simp; with_reducible rfl)⟩) hHeld ?_ rfl rfl
   simp only [Act.put, sA, sZ, sS]
   refine wpq_tk 5 (some 19) [6, 7, 8, 9, 10] (Or.inl ⟨by rfl, fun w hSw => by (go_simp; with_reducible rfl)⟩) hHeld ?_ rfl rfl
   simp only [Act.put, sA, sZ, sS]
   refine wpq_tk 6 (some 20) [7, 8, 9, 10] (Or.inl ⟨by rfl, fun w hSw => by (go_simp; with_reducible rfl)⟩) hHeld ?_ rfl rfl
   simp only [Act.put, sA, sZ, sS]
   clear hmod hwu hci e92
   refine wpq_two 4 7 (by kernel_rfl) rfl rfl (fun K hK => ?_) (fun K hK => ?_)
   ·go_simp
    refine (byteR_any c HCB.out _).mono ?_
    rintro e wd2 ⟨⟨u, rfl, hu⟩, hb⟩
    have HU := Lib.hid hu

    have HBW2 := Lib.hid (HBW.out.trans (hb.mono HBW.out.size))
    clear hu hb HBW
    refine hK.out _ _ trivial (fun hHeld => ?_)
    clear hK K
    have HBW := HBW2
    clear HBW2
    generalize wd2 = wd at *
    refine wpq_one 7 (by kernel_rfl) rfl (fun K hK => ?_)
    go_simp
    have hb6 : Below wd.heap.size wd (wd.alloc (.cells #[.int .u8 (c : Int)] 5)) := (Below.refl _ _).alloc (Nat.le_refl _) _
    have HRW := Lib.hid (show (wd.alloc (.cells #[.int .u8 (c : Int)] 5)).heap[wd.heap.size]? = some (.cells #[.int .u8 (c : Int)] 5) from heap_alloc_new wd _)
    have HBW2 := Lib.hid (HBW.out.trans (hb6.mono HBW.out.size))
    clear hb6 HBW
    refine hK.out _ _ trivial (fun hHeld => ?_)
    clear hK K
    have HBW := HBW2
    clear HBW2
    generalize wd.heap.size = kb at *
    generalize wd.alloc (.cells #[.int .u8 (c : Int)] 5) = wd at *
    have hcv := conv_at wd kb (c : Int) HRW.out
    refine wpq_one 8 (by kernel_rfl) rfl (fun K hK => ?_)
    go_simp
    refine hK.out _ _ trivial (fun hHeld => ?_)
    clear hK K hcv
    refine wpq_one 9 (by kernel_rfl) rfl (fun K hK => ?_)
    go_simp
    refine hK.out _ _ trivial (fun hHeld => ?_)
    clear hK K
    refine wpq_end 10 (by kernel_rfl) rfl (by kernel_rfl) (fun K hK => ?_)
    go_simp
    refine hK.out _ _ ?_
    clear hK K
    refine wpq_done (by kernel_rfl) ?_ _
    go_simp
    by_cases hq : byteT c = [UInt8.ofNat c]
    ·have hqq : (u.toList == [UInt8.ofNat c]) = true := by rw [toList_L, HU.out]; exact beq_true hq
     rw [hqq]
     have HOK := Lib.hid (HYES.out hq)
     clear hq
     go_wp2_with fail
     go_ret2
     exact ⟨HOK.out, HBW.out⟩
    ·have hqq : (u.toList == [UInt8.ofNat c]) = false := by rw [toList_L, HU.out]; exact beq_false hq
     rw [hqq]
     have HOK := Lib.hid (HNO.out hq)
     clear hq
     go_wp2_with fail
     go_ret2
     exact ⟨HOK.out, HBW.out⟩
   ·go_simp
    have hb6 : Below wd.heap.size wd (wd.alloc (.cells #[.int .u8 (c : Int)] 5)) := (Below.refl _ _).alloc (Nat.le_refl _) _
    have HRW := Lib.hid (show (wd.alloc (.cells #[.int .u8 (c : Int)] 5)).heap[wd.heap.size]? = some (.cells #[.int .u8 (c : Int)] 5) from heap_alloc_new wd _)
    have HBW2 := Lib.hid (HBW.out.trans (hb6.mono HBW.out.size))
    clear hb6 HBW
    refine hK.out _ _ trivial (fun hHeld => ?_)
    clear hK K
    have HBW := HBW2
    clear HBW2
    generalize wd.heap.size = kb at *
    generalize wd.alloc (.cells #[.int .u8 (c : Int)] 5) = wd at *
    refine wpq_two 4 8 (by kernel_rfl) rfl rfl (fun K hK => ?_) (fun K hK => ?_)
    ·go_simp
     refine (byteR_any c HCB.out _).mono ?_
     rintro e wd2 ⟨⟨u, rfl, hu⟩, hb⟩
     have HU := Lib.hid hu
     have HRW2 := Lib.hid ((hb.block kb (Array.getElem?_eq_some_iff.1 HRW.out).1).trans HRW.out)
     have HBW2 := Lib.hid (HBW.out.trans (hb.mono HBW.out.size))
     clear hu hb HBW HRW
     refine hK.out _ _ trivial (fun hHeld => ?_)
     clear hK K
     have HRW := HRW2
     clear HRW2
     have HBW := HBW2
     clear HBW2
     generalize wd2 = wd at *
     have hcv := conv_at wd kb (c : Int) HRW.out
     refine wpq_one 8 (by kernel_rfl) rfl (fun K hK => ?_)
     go_simp
     refine hK.out _ _ trivial (fun hHeld => ?_)
     clear hK K hcv
     refine wpq_one 9 (by kernel_rfl) rfl (fun K hK => ?_)
     go_simp
     refine hK.out _ _ trivial (fun hHeld => ?_)
     clear hK K
     refine wpq_end 10 (by kernel_rfl) rfl (by kernel_rfl) (fun K hK => ?_)
     go_simp
     refine hK.out _ _ ?_
     clear hK K
     refine wpq_done (by kernel_rfl) ?_ _
     go_simp
     by_cases hq : byteT c = [UInt8.ofNat c]
     ·have hqq : (u.toList == [UInt8.ofNat c]) = true := by rw [toList_L, HU.out]; exact beq_true hq
      rw [hqq]
      have HOK := Lib.hid (HYES.out hq)
      clear hq
      go_wp2_with fail
      go_ret2
      exact ⟨HOK.out, HBW.out⟩
     ·have hqq : (u.toList == [UInt8.ofNat c]) = false := by rw [toList_L, HU.out]; exact beq_false hq
      rw [hqq]
      have HOK := Lib.hid (HNO.out hq)
      clear hq
      go_wp2_with fail
      go_ret2
      exact ⟨HOK.out, HBW.out⟩
    ·have hcv := conv_at wd kb (c : Int) HRW.out
     go_simp
     refine hK.out _ _ trivial (fun hHeld => ?_)
     clear hK K hcv
     refine wpq_one 4 (by kernel_rfl) rfl (fun K hK => ?_)
     go_simp
     refine (byteR_any c HCB.out _).mono ?_
     rintro e wd2 ⟨⟨u, rfl, hu⟩, hb⟩
     have HU := Lib.hid hu

     have HBW2 := Lib.hid (HBW.out.trans (hb.mono HBW.out.size))
     clear hu hb HBW
     refine hK.out _ _ trivial (fun hHeld => ?_)
     clear hK K
     have HBW := HBW2
     clear HBW2
     generalize wd2 = wd at *
     refine wpq_one 9 (by kernel_rfl) rfl (fun K hK => ?_)
     go_simp
     refine hK.out _ _ trivial (fun hHeld => ?_)
     clear hK K
     refine wpq_end 10 (by kernel_rfl) rfl (by kernel_rfl) (fun K hK => ?_)
     go_simp
     refine hK.out _ _ ?_
     clear hK K
     refine wpq_done (by kernel_rfl) ?_ _
     go_simp
     by_cases hq : byteT c = [UInt8.ofNat c]
     ·have hqq : (u.toList == [UInt8.ofNat c]) = true := by rw [toList_L, HU.out]; exact beq_true hq
      rw [hqq]
      have HOK := Lib.hid (HYES.out hq)
      clear hq
      go_wp2_with fail
      go_ret2
      exact ⟨HOK.out, HBW.out⟩
     ·have hqq : (u.toList == [UInt8.ofNat c]) = false := by rw [toList_L, HU.out]; exact beq_false hq
      rw [hqq]
      have HOK := Lib.hid (HNO.out hq)
      clear hq
      go_wp2_with fail
      go_ret2
      exact ⟨HOK.out, HBW.out⟩
end Go.Proofs.YtpkecepelcppiaaGreatDoor
