/- Paths in memory; the packages path and datakitref08, walked: Valid. Conditions: none. -/
import Derived.Test.YthdninnjjmhpfaaGreatDoorPv1
import Derived.Deep.DeepCutAuto
import Derived.Deep.CutBlock
import Derived.Deep.QuietTactic
import Derived.BigQuiet
namespace Go.Proofs.YthdninnjjmhpfaaGreatDoor
open Go.RowKit
set_option maxHeartbeats 1000000
set_option maxRecDepth 100000

/-- The cells of a path, from o on in block g. -/
def At3 (w : World) (g o : Nat) (l : List St) : Prop :=
  ∀ i (h : i < l.length), w.cell? ⟨g, o + i * 3, none⟩ = some (.bool l[i].1) ∧ w.cell? ⟨g, o + i * 3 + 1, none⟩ = some (.string l[i].2.1) ∧ w.cell? ⟨g, o + i * 3 + 2, none⟩ = some (.int .i64 l[i].2.2)
/-- v is a slice that reads as the path l. -/
def Rd (w : World) (v : Value) (l : List St) : Prop :=
  ∃ (a : Option Addr) (cap : Nat), v = .slice a l.length cap ∧ l.length ≤ cap ∧ cap ≤ maxLen ∧ (a = none → cap = 0) ∧ (l ≠ [] → ∃ g o, a = some ⟨g, o, none⟩ ∧ g < w.heap.size ∧ At3 w g o l)
theorem At3.below {w w' : World} {B g o : Nat} {l : List St} (h : At3 w g o l) (hb : Below B w w') (hg : g < B) : At3 w' g o l := by
  intro i hi
  obtain ⟨h0, h1, h2⟩ := h i hi
  exact ⟨(hb.cell hg).trans h0, (hb.cell hg).trans h1, (hb.cell hg).trans h2⟩
theorem Rd.below {w w' : World} {v : Value} {l : List St} (h : Rd w v l) (hb : Below w.heap.size w w') : Rd w' v l := by
  obtain ⟨a, cap, hv, h1, h2, h0, h3⟩ := h
  refine ⟨a, cap, hv, h1, h2, h0, fun hl => ?_⟩
  obtain ⟨g, o, ha, hg, hc⟩ := h3 hl
  exact ⟨g, o, ha, Nat.lt_of_lt_of_le hg hb.size, hc.below hb hg⟩
theorem At3.drew {w : World} {g o m : Nat} {l : List St} (h : At3 w g o l) : At3 (w.drewN m) g o l := h
theorem Rd.nil {w : World} : Rd w (.slice none 0 0) [] :=
  ⟨none, 0, rfl, Nat.zero_le _, Nat.zero_le _, fun _ => rfl, fun h => absurd rfl h⟩
/-- The first n steps. -/
theorem Rd.upto {w : World} {a : Option Addr} {cap : Nat} {l : List St} (h : Rd w (.slice a l.length cap) l) (n : Nat) (hn : n ≤ l.length) : Rd w (.slice a n cap) (l.take n) := by
  obtain ⟨a', cap', hv, h1, h2, h0, h3⟩ := h
  simp only [Value.slice.injEq, true_and] at hv
  obtain ⟨rfl, rfl⟩ := hv
  refine ⟨a, cap, by rw [List.length_take, Nat.min_eq_left hn], by rw [List.length_take]; omega, h2, h0, fun hl => ?_⟩
  obtain ⟨g, o, ha, hg, hc⟩ := h3 (by rintro rfl; simp at hl)
  refine ⟨g, o, ha, hg, fun i hi => ?_⟩
  rw [List.length_take] at hi
  rw [List.getElem_take]
  exact hc i (by omega)

/-- How the loop over the steps goes on. -/
theorem all_drop (l : List St) (k : Nat) (h : k < l.length) : (l.drop k).all okSt = (okSt l[k] && (l.drop (k + 1)).all okSt) := by
  rw [List.drop_eq_getElem_cons h, List.all_cons]
theorem neE {s : ByteArray} : (s.toList.isEmpty = true ↔ s.size = 0) := by
  rw [toList_L, List.isEmpty_iff, ← List.length_eq_zero_iff, L_len]
theorem validL_iff (s : ByteArray) : validL (L s) = decide (badL (L s) = (L s).length) := rfl
theorem okSt_true (k : ByteArray) (i : Int) : okSt (true, k, i) = decide (k.size = 0 ∧ 0 ≤ i ∧ i ≤ 65536) := rfl
theorem okSt_false (k : ByteArray) (i : Int) : okSt (false, k, i) = decide (i = 0 ∧ k.size ≤ 1024 ∧ badL (L k) = (L k).length) := rfl

theorem PValid_any (v : Value) (l : List St) (w : World) (h : Rd w v l) :
    Calls Tryz.prog 50 #[v] w fun e w' => e = .returned (.bool (validP l)) ∧ Below w.heap.size w w' := by
  obtain ⟨a, cap, rfl, hcap, hmax, _, hl⟩ := h
  by_cases hbig : 48 < l.length
  · have h1 : (48 : Int) < l.length := by omega
    have HF : Hid (validP l = false) := by unfold Hid validP; simp; omega
    clear hbig
    go_enter Tryz.func50, Tryz.ntmps50
    go_wp2_with fail
    go_ret
    exact ⟨by rw [HF.out]; rfl, Below.refl _ _⟩
  have h1 : ¬ (48 : Int) < l.length := by omega
  have HV : Hid (validP l = l.all okSt) := by unfold Hid validP; rw [decide_eq_true (by omega), Bool.true_and]
  have HL := Lib.hid hl; clear hl
  go_enter Tryz.func50, Tryz.ntmps50
  go_wp2_with fail
  go_loopw [4, 10] (fun _ n wr => ∃ k : Nat, k ≤ l.length ∧ n = .int .i64 k ∧ Hid (l.all okSt = (l.drop k).all okSt) ∧ Below w.heap.size w wr) (fun _ n _ => l.length - (intOf n).toNat)
  case atStart => exact ⟨0, by omega, rfl, by unfold Hid; simp, Below.refl _ _⟩
  case round =>
    obtain ⟨k, hk, rfl, HR, hbw⟩ := hrel
    by_cases hlt : k < l.length
    case neg =>
      have HF : Hid (validP l = true) := by unfold Hid; rw [HV.out, HR.out, List.drop_of_length_le (by omega)]; rfl
      clear HR HV
      go_wp2_with fail
      go_ret
      exact ⟨by rw [HF.out]; rfl, hbw⟩
    obtain ⟨g, o, rfl, hg, hat⟩ := HL.out (by intro h; subst h; simp at hlt)
    obtain ⟨c0, c1, c2⟩ := hat k hlt
    have HS : Hid (l.all okSt = (okSt l[k] && (l.drop (k + 1)).all okSt)) := by unfold Hid; rw [HR.out, all_drop l k hlt]
    clear HR hat
    rw [← hbw.cell (p := ⟨g, o + k * 3, none⟩) hg] at c0
    rw [← hbw.cell (p := ⟨g, o + k * 3 + 1, none⟩) hg] at c1
    rw [← hbw.cell (p := ⟨g, o + k * 3 + 2, none⟩) hg] at c2
    have hsz := hbw.size
    generalize l[k] = s at *
    obtain ⟨b, key, ix⟩ := s
    simp only [] at c0 c1 c2
    cases b with
    | true =>
      rw [okSt_true] at HS
      by_cases e1 : key.size = 0
      case neg =>
        have HF : Hid (validP l = false) := by unfold Hid; rw [HV.out, HS.out, decide_eq_false (by omega)]; rfl
        have e1' : key.toList.isEmpty = false := by rw [Bool.eq_false_iff]; rw [ne_eq, neE]; exact e1
        clear HS HV e1
        go_wp2_with fail
        go_ret
        exact ⟨by rw [HF.out]; rfl, hbw.alloc hsz _⟩
      have e1' : key.toList.isEmpty = true := neE.2 e1
      by_cases e2 : ix < 0
      · have HF : Hid (validP l = false) := by unfold Hid; rw [HV.out, HS.out, decide_eq_false (by omega)]; rfl
        clear HS HV e1
        go_wp2_with fail
        go_ret
        exact ⟨by rw [HF.out]; rfl, hbw.alloc hsz _⟩
      by_cases e3 : 65536 < ix
      · have HF : Hid (validP l = false) := by unfold Hid; rw [HV.out, HS.out, decide_eq_false (by omega)]; rfl
        have e3' : ((65536 : Int) < ix) = True := eq_true e3
        clear HS HV e1 e3
        go_wp2_with fail
        go_ret
        exact ⟨by rw [HF.out]; rfl, hbw.alloc hsz _⟩
      have HF : Hid (l.all okSt = (l.drop (k + 1)).all okSt) := by unfold Hid; rw [HS.out, decide_eq_true (by omega), Bool.true_and]
      have e3' : ((65536 : Int) < ix) = False := eq_false e3
      clear HS e1 e3
      go_wp2_with fail
      exact ⟨⟨k + 1, by omega, rfl, HF, hbw.alloc hsz _⟩, by simp [intOf]; omega⟩
    | false =>
      rw [okSt_false] at HS
      by_cases e1 : ix = 0
      case neg =>
        have HF : Hid (validP l = false) := by unfold Hid; rw [HV.out, HS.out, decide_eq_false (by omega)]; rfl
        have e1' : (ix != 0) = true := by rw [bne_iff_ne]; exact e1
        clear HS HV e1
        go_wp2_with fail
        go_ret
        exact ⟨by rw [HF.out]; rfl, hbw.alloc hsz _⟩
      have e1' : (ix != 0) = false := by rw [bne_eq_false_iff_eq]; exact e1
      by_cases e2 : 1024 < key.size
      · have HF : Hid (validP l = false) := by unfold Hid; rw [HV.out, HS.out, decide_eq_false (by omega)]; rfl
        have e2' : (1024 : Int) < key.size := by omega
        clear HS HV e1 e2
        go_wp2_with fail
        go_ret
        exact ⟨by rw [HF.out]; rfl, hbw.alloc hsz _⟩
      have e2' : ¬ (1024 : Int) < key.size := by omega
      by_cases e3 : badL (L key) = (L key).length
      · have HF : Hid (l.all okSt = (l.drop (k + 1)).all okSt) := by unfold Hid; rw [HS.out, decide_eq_true ⟨e1, by omega, e3⟩, Bool.true_and]
        have e3' : validL (L key) = true := by rw [validL_iff]; exact decide_eq_true e3
        clear HS e1 e3
        go_wp2_with (go_at_call 88; refine (Valid_any _ _ (by omega)).mono ?_; rintro e w1 ⟨rfl, rfl⟩)
        exact ⟨⟨k + 1, by omega, rfl, HF, hbw.alloc hsz _⟩, by simp [intOf]; omega⟩
      · have HF : Hid (validP l = false) := by unfold Hid; rw [HV.out, HS.out, decide_eq_false (fun h => e3 h.2.2)]; rfl
        have e3' : validL (L key) = false := by rw [validL_iff]; exact decide_eq_false e3
        clear HS HV e1 e3
        go_wp2_with (go_at_call 88; refine (Valid_any _ _ (by omega)).mono ?_; rintro e w1 ⟨rfl, rfl⟩)
        go_ret
        exact ⟨by rw [HF.out]; rfl, hbw.alloc hsz _⟩

theorem RValid_any (v : Value) (l : List St) (w : World) (h : Rd w v l) :
    Calls Tryz.prog 86 #[v] w fun e w' => e = .returned (.bool (validP l)) ∧ Below w.heap.size w w' := by
  obtain ⟨a, cap, rfl, hcap, hmax, _, hl⟩ := h
  by_cases hbig : 48 < l.length
  · have h1 : (48 : Int) < l.length := by omega
    have HF : Hid (validP l = false) := by unfold Hid validP; simp; omega
    clear hbig
    go_enter Tryz.func86, Tryz.ntmps86
    go_wp2_with fail
    go_ret
    exact ⟨by rw [HF.out]; rfl, Below.refl _ _⟩
  have h1 : ¬ (48 : Int) < l.length := by omega
  have HV : Hid (validP l = l.all okSt) := by unfold Hid validP; rw [decide_eq_true (by omega), Bool.true_and]
  have HL := Lib.hid hl; clear hl
  go_enter Tryz.func86, Tryz.ntmps86
  go_wp2_with fail
  go_loopw [3] (fun n wr => ∃ k : Nat, k ≤ l.length ∧ n = .int .i64 k ∧ Hid (l.all okSt = (l.drop k).all okSt) ∧ Below w.heap.size w wr) (fun n _ => l.length - (intOf n).toNat)
  case atStart => exact ⟨0, by omega, rfl, by unfold Hid; simp, Below.refl _ _⟩
  case round =>
    obtain ⟨k, hk, rfl, HR, hbw⟩ := hrel
    by_cases hlt : k < l.length
    case neg =>
      have HF : Hid (validP l = true) := by unfold Hid; rw [HV.out, HR.out, List.drop_of_length_le (by omega)]; rfl
      clear HR HV
      go_wp2_with fail
      go_ret
      exact ⟨by rw [HF.out]; rfl, hbw⟩
    obtain ⟨g, o, rfl, hg, hat⟩ := HL.out (by intro h; subst h; simp at hlt)
    obtain ⟨c0, c1, c2⟩ := hat k hlt
    have HS : Hid (l.all okSt = (okSt l[k] && (l.drop (k + 1)).all okSt)) := by unfold Hid; rw [HR.out, all_drop l k hlt]
    clear HR hat
    rw [← hbw.cell (p := ⟨g, o + k * 3, none⟩) hg] at c0
    rw [← hbw.cell (p := ⟨g, o + k * 3 + 1, none⟩) hg] at c1
    rw [← hbw.cell (p := ⟨g, o + k * 3 + 2, none⟩) hg] at c2
    have hsz := hbw.size
    generalize l[k] = s at *
    obtain ⟨b, key, ix⟩ := s
    simp only [] at c0 c1 c2
    cases b with
    | true =>
      rw [okSt_true] at HS
      by_cases e1 : key.size = 0
      case neg =>
        have HF : Hid (validP l = false) := by unfold Hid; rw [HV.out, HS.out, decide_eq_false (by omega)]; rfl
        have e1' : key.toList.isEmpty = false := by rw [Bool.eq_false_iff]; rw [ne_eq, neE]; exact e1
        clear HS HV e1
        go_wp2_with fail
        go_ret
        exact ⟨by rw [HF.out]; rfl, hbw⟩
      have e1' : key.toList.isEmpty = true := neE.2 e1
      by_cases e2 : ix < 0
      · have HF : Hid (validP l = false) := by unfold Hid; rw [HV.out, HS.out, decide_eq_false (by omega)]; rfl
        clear HS HV e1
        go_wp2_with fail
        go_ret
        exact ⟨by rw [HF.out]; rfl, hbw⟩
      by_cases e3 : 65536 < ix
      · have HF : Hid (validP l = false) := by unfold Hid; rw [HV.out, HS.out, decide_eq_false (by omega)]; rfl
        have e3' : ((65536 : Int) < ix) = True := eq_true e3
        clear HS HV e1 e3
        go_wp2_with fail
        go_ret
        exact ⟨by rw [HF.out]; rfl, hbw⟩
      have HF : Hid (l.all okSt = (l.drop (k + 1)).all okSt) := by unfold Hid; rw [HS.out, decide_eq_true (by omega), Bool.true_and]
      have e3' : ((65536 : Int) < ix) = False := eq_false e3
      clear HS e1 e3
      go_wp2_with fail
      exact ⟨⟨k + 1, by omega, rfl, HF, hbw⟩, by simp [intOf]; omega⟩
    | false =>
      rw [okSt_false] at HS
      by_cases e1 : ix = 0
      case neg =>
        have HF : Hid (validP l = false) := by unfold Hid; rw [HV.out, HS.out, decide_eq_false (by omega)]; rfl
        have e1' : (ix != 0) = true := by rw [bne_iff_ne]; exact e1
        clear HS HV e1
        go_wp2_with fail
        go_ret
        exact ⟨by rw [HF.out]; rfl, hbw⟩
      have e1' : (ix != 0) = false := by rw [bne_eq_false_iff_eq]; exact e1
      by_cases e2 : 1024 < key.size
      · have HF : Hid (validP l = false) := by unfold Hid; rw [HV.out, HS.out, decide_eq_false (by omega)]; rfl
        have e2' : (1024 : Int) < key.size := by omega
        clear HS HV e1 e2
        go_wp2_with fail
        go_ret
        exact ⟨by rw [HF.out]; rfl, hbw⟩
      have e2' : ¬ (1024 : Int) < key.size := by omega
      by_cases e3 : badL (L key) = (L key).length
      · have HF : Hid (l.all okSt = (l.drop (k + 1)).all okSt) := by unfold Hid; rw [HS.out, decide_eq_true ⟨e1, by omega, e3⟩, Bool.true_and]
        have e3' : validL (L key) = true := by rw [validL_iff]; exact decide_eq_true e3
        clear HS e1 e3
        go_wp2_with (go_at_call 99; refine (Valid3_any _ _ (by omega)).mono ?_; rintro e w1 ⟨rfl, hb1⟩)
        exact ⟨⟨k + 1, by omega, rfl, HF, hbw.trans (hb1.mono hsz)⟩, by simp [intOf]; omega⟩
      · have HF : Hid (validP l = false) := by unfold Hid; rw [HV.out, HS.out, decide_eq_false (fun h => e3 h.2.2)]; rfl
        have e3' : validL (L key) = false := by rw [validL_iff]; exact decide_eq_false e3
        clear HS HV e1 e3
        go_wp2_with (go_at_call 99; refine (Valid3_any _ _ (by omega)).mono ?_; rintro e w1 ⟨rfl, hb1⟩)
        go_ret
        exact ⟨by rw [HF.out]; rfl, hbw.trans (hb1.mono hsz)⟩
end Go.Proofs.YthdninnjjmhpfaaGreatDoor
