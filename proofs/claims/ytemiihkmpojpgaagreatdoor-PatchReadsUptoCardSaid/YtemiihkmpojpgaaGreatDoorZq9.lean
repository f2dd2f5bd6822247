/- The packages path and datakitref08, walked: Cmp. Conditions: none. -/
import Derived.Test.YtemiihkmpojpgaaGreatDoorZq8
import Derived.Deep.DeepCutAuto
import Derived.Deep.CutBlock
import Derived.Deep.QuietTactic
import Derived.BigQuiet
namespace Go.Proofs.YtemiihkmpojpgaaGreatDoor
open Go.RowKit
set_option maxHeartbeats 1000000
set_option maxRecDepth 100000

/-- The cells of a path, from o on in block g. -/
def At3 (w : World) (g o : Nat) (l : List St) : Prop :=
  ∀ i (h : i < l.length), w.cell? ⟨g, o + i * 3, none⟩ = some (.bool l[i].1) ∧ w.cell? ⟨g, o + i * 3 + 1, none⟩ = some (.string l[i].2.1) ∧ w.cell? ⟨g, o + i * 3 + 2, none⟩ = some (.int .i64 l[i].2.2)
/-- v is a slice that reads as the path l. -/
def Rd (w : World) (v : Value) (l : List St) : Prop :=
  ∃ (a : Option Addr) (cap : Nat), v = .slice a l.length cap ∧ l.length ≤ cap ∧ cap ≤ maxLen ∧ (a = none → cap = 0) ∧ (l ≠ [] → ∃ g o, a = some ⟨g, o, none⟩ ∧ g < w.heap.size ∧ At3 w g o l)
theorem At3.below {w w' : World} {B g o : Nat} {l : List St} (h : At3 w g o l) (hb : Below B w w') (hg : g < B) : At3 w' g o l := by
  intro i hi
  obtain ⟨h0, h1, h2⟩ := h i hi
  exact ⟨(hb.cell hg).trans h0, (hb.cell hg).trans h1, (hb.cell hg).trans h2⟩
theorem Rd.below {w w' : World} {v : Value} {l : List St} (h : Rd w v l) (hb : Below w.heap.size w w') : Rd w' v l := by
  obtain ⟨a, cap, hv, h1, h2, h0, h3⟩ := h
  refine ⟨a, cap, hv, h1, h2, h0, fun hl => ?_⟩
  obtain ⟨g, o, ha, hg, hc⟩ := h3 hl
  exact ⟨g, o, ha, Nat.lt_of_lt_of_le hg hb.size, hc.below hb hg⟩
theorem At3.drew {w : World} {g o m : Nat} {l : List St} (h : At3 w g o l) : At3 (w.drewN m) g o l := h
theorem Rd.nil {w : World} : Rd w (.slice none 0 0) [] :=
  ⟨none, 0, rfl, Nat.zero_le _, Nat.zero_le _, fun _ => rfl, fun h => absurd rfl h⟩
/-- The first n steps. -/
theorem Rd.upto {w : World} {a : Option Addr} {cap : Nat} {l : List St} (h : Rd w (.slice a l.length cap) l) (n : Nat) (hn : n ≤ l.length) : Rd w (.slice a n cap) (l.take n) := by
  obtain ⟨a', cap', hv, h1, h2, h0, h3⟩ := h
  simp only [Value.slice.injEq, true_and] at hv
  obtain ⟨rfl, rfl⟩ := hv
  refine ⟨a, cap, by rw [List.length_take, Nat.min_eq_left hn], by rw [List.length_take]; omega, h2, h0, fun hl => ?_⟩
  obtain ⟨g, o, ha, hg, hc⟩ := h3 (by rintro rfl; simp at hl)
  refine ⟨g, o, ha, hg, fun i hi => ?_⟩
  rw [List.length_take] at hi
  rw [List.getElem_take]
  exact hc i (by omega)

/-- How the loop over the steps goes on. -/
theorem all_drop (l : List St) (k : Nat) (h : k < l.length) : (l.drop k).all okSt = (okSt l[k] && (l.drop (k + 1)).all okSt) := by
  rw [List.drop_eq_getElem_cons h, List.all_cons]
theorem neE {s : ByteArray} : (s.toList.isEmpty = true ↔ s.size = 0) := by
  rw [toList_L, List.isEmpty_iff, ← List.length_eq_zero_iff, L_len]
theorem validL_iff (s : ByteArray) : validL (L s) = decide (badL (L s) = (L s).length) := rfl
theorem okSt_true (k : ByteArray) (i : Int) : okSt (true, k, i) = decide (k.size = 0 ∧ 0 ≤ i ∧ i ≤ 65536) := rfl
theorem okSt_false (k : ByteArray) (i : Int) : okSt (false, k, i) = decide (i = 0 ∧ k.size ≤ 1024 ∧ badL (L k) = (L k).length) := rfl

theorem PValid_any (v : Value) (l : List St) (w : World) (h : Rd w v l) :
    Calls Tryz.prog 45 #[v] w fun e w' => e = .returned (.bool (validP l)) ∧ Below w.heap.size w w' := by
  obtain ⟨a, cap, rfl, hcap, hmax, _, hl⟩ := h
  by_cases hbig : 48 < l.length
  · have h1 : (48 : Int) < l.length := by omega
    have HF : Hid (validP l = false) := by unfold Hid validP; simp; omega
    clear hbig
    go_enter Tryz.func45, Tryz.ntmps45
    go_wp2_with fail
    go_ret
    exact ⟨by rw [HF.out]; rfl, Below.refl _ _⟩
  have h1 : ¬ (48 : Int) < l.length := by omega
  have HV : Hid (validP l = l.all okSt) := by unfold Hid validP; rw [decide_eq_true (by omega), Bool.true_and]
  have HL := Lib.hid hl; clear hl
  go_enter Tryz.func45, Tryz.ntmps45
  go_wp2_with fail
  go_loopw [4, 10] (fun _ n wr => ∃ k : Nat, k ≤ l.length ∧ n = .int .i64 k ∧ Hid (l.all okSt = (l.drop k).all okSt) ∧ Below w.heap.size w wr) (fun _ n _ => l.length - (intOf n).toNat)
  case atStart => exact ⟨0, by omega, rfl, by unfold Hid; simp, Below.refl _ _⟩
  case round =>
    obtain ⟨k, hk, rfl, HR, hbw⟩ := hrel
    by_cases hlt : k < l.length
    case neg =>
      have HF : Hid (validP l = true) := by unfold Hid; rw [HV.out, HR.out, List.drop_of_length_le (by omega)]; rfl
      clear HR HV
      go_wp2_with fail
      go_ret
      exact ⟨by rw [HF.out]; rfl, hbw⟩
    obtain ⟨g, o, rfl, hg, hat⟩ := HL.out (by intro h; subst h; simp at hlt)
    obtain ⟨c0, c1, c2⟩ := hat k hlt
    have HS : Hid (l.all okSt = (okSt l[k] && (l.drop (k + 1)).all okSt)) := by unfold Hid; rw [HR.out, all_drop l k hlt]
    clear HR hat
    rw [← hbw.cell (p := ⟨g, o + k * 3, none⟩) hg] at c0
    rw [← hbw.cell (p := ⟨g, o + k * 3 + 1, none⟩) hg] at c1
    rw [← hbw.cell (p := ⟨g, o + k * 3 + 2, none⟩) hg] at c2
    have hsz := hbw.size
    generalize l[k] = s at *
    obtain ⟨b, key, ix⟩ := s
    simp only [] at c0 c1 c2
    cases b with
    | true =>
      rw [okSt_true] at HS
      by_cases e1 : key.size = 0
      case neg =>
        have HF : Hid (validP l = false) := by unfold Hid; rw [HV.out, HS.out, decide_eq_false (by omega)]; rfl
        have e1' : key.toList.isEmpty = false := by rw [Bool.eq_false_iff]; rw [ne_eq, neE]; exact e1
        clear HS HV e1
        go_wp2_with fail
        go_ret
        exact ⟨by rw [HF.out]; rfl, hbw.alloc hsz _⟩
      have e1' : key.toList.isEmpty = true := neE.2 e1
      by_cases e2 : ix < 0
      · have HF : Hid (validP l = false) := by unfold Hid; rw [HV.out, HS.out, decide_eq_false (by omega)]; rfl
        clear HS HV e1
        go_wp2_with fail
        go_ret
        exact ⟨by rw [HF.out]; rfl, hbw.alloc hsz _⟩
      by_cases e3 : 65536 < ix
      · have HF : Hid (validP l = false) := by unfold Hid; rw [HV.out, HS.out, decide_eq_false (by omega)]; rfl
        have e3' : ((65536 : Int) < ix) = True := eq_true e3
        clear HS HV e1 e3
        go_wp2_with fail
        go_ret
        exact ⟨by rw [HF.out]; rfl, hbw.alloc hsz _⟩
      have HF : Hid (l.all okSt = (l.drop (k + 1)).all okSt) := by unfold Hid; rw [HS.out, decide_eq_true (by omega), Bool.true_and]
      have e3' : ((65536 : Int) < ix) = False := eq_false e3
      clear HS e1 e3
      go_wp2_with fail
      exact ⟨⟨k + 1, by omega, rfl, HF, hbw.alloc hsz _⟩, by simp [intOf]; omega⟩
    | false =>
      rw [okSt_false] at HS
      by_cases e1 : ix = 0
      case neg =>
        have HF : Hid (validP l = false) := by unfold Hid; rw [HV.out, HS.out, decide_eq_false (by omega)]; rfl
        have e1' : (ix != 0) = true := by rw [bne_iff_ne]; exact e1
        clear HS HV e1
        go_wp2_with fail
        go_ret
        exact ⟨by rw [HF.out]; rfl, hbw.alloc hsz _⟩
      have e1' : (ix != 0) = false := by rw [bne_eq_false_iff_eq]; exact e1
      by_cases e2 : 1024 < key.size
      · have HF : Hid (validP l = false) := by unfold Hid; rw [HV.out, HS.out, decide_eq_false (by omega)]; rfl
        have e2' : (1024 : Int) < key.size := by omega
        clear HS HV e1 e2
        go_wp2_with fail
        go_ret
        exact ⟨by rw [HF.out]; rfl, hbw.alloc hsz _⟩
      have e2' : ¬ (1024 : Int) < key.size := by omega
      by_cases e3 : badL (L key) = (L key).length
      · have HF : Hid (l.all okSt = (l.drop (k + 1)).all okSt) := by unfold Hid; rw [HS.out, decide_eq_true ⟨e1, by omega, e3⟩, Bool.true_and]
        have e3' : validL (L key) = true := by rw [validL_iff]; exact decide_eq_true e3
        clear HS e1 e3
        go_wp2_with (go_at_call 38; refine (Valid_any _ _ (by omega)).mono ?_; rintro e w1 ⟨rfl, rfl⟩)
        exact ⟨⟨k + 1, by omega, rfl, HF, hbw.alloc hsz _⟩, by simp [intOf]; omega⟩
      · have HF : Hid (validP l = false) := by unfold Hid; rw [HV.out, HS.out, decide_eq_false (fun h => e3 h.2.2)]; rfl
        have e3' : validL (L key) = false := by rw [validL_iff]; exact decide_eq_false e3
        clear HS HV e1 e3
        go_wp2_with (go_at_call 38; refine (Valid_any _ _ (by omega)).mono ?_; rintro e w1 ⟨rfl, rfl⟩)
        go_ret
        exact ⟨by rw [HF.out]; rfl, hbw.alloc hsz _⟩

theorem RValid_any (v : Value) (l : List St) (w : World) (h : Rd w v l) :
    Calls Tryz.prog 48 #[v] w fun e w' => e = .returned (.bool (validP l)) ∧ Below w.heap.size w w' := by
  obtain ⟨a, cap, rfl, hcap, hmax, _, hl⟩ := h
  by_cases hbig : 48 < l.length
  · have h1 : (48 : Int) < l.length := by omega
    have HF : Hid (validP l = false) := by unfold Hid validP; simp; omega
    clear hbig
    go_enter Tryz.func48, Tryz.ntmps48
    go_wp2_with fail
    go_ret
    exact ⟨by rw [HF.out]; rfl, Below.refl _ _⟩
  have h1 : ¬ (48 : Int) < l.length := by omega
  have HV : Hid (validP l = l.all okSt) := by unfold Hid validP; rw [decide_eq_true (by omega), Bool.true_and]
  have HL := Lib.hid hl; clear hl
  go_enter Tryz.func48, Tryz.ntmps48
  go_wp2_with fail
  go_loopw [3] (fun n wr => ∃ k : Nat, k ≤ l.length ∧ n = .int .i64 k ∧ Hid (l.all okSt = (l.drop k).all okSt) ∧ Below w.heap.size w wr) (fun n _ => l.length - (intOf n).toNat)
  case atStart => exact ⟨0, by omega, rfl, by unfold Hid; simp, Below.refl _ _⟩
  case round =>
    obtain ⟨k, hk, rfl, HR, hbw⟩ := hrel
    by_cases hlt : k < l.length
    case neg =>
      have HF : Hid (validP l = true) := by unfold Hid; rw [HV.out, HR.out, List.drop_of_length_le (by omega)]; rfl
      clear HR HV
      go_wp2_with fail
      go_ret
      exact ⟨by rw [HF.out]; rfl, hbw⟩
    obtain ⟨g, o, rfl, hg, hat⟩ := HL.out (by intro h; subst h; simp at hlt)
    obtain ⟨c0, c1, c2⟩ := hat k hlt
    have HS : Hid (l.all okSt = (okSt l[k] && (l.drop (k + 1)).all okSt)) := by unfold Hid; rw [HR.out, all_drop l k hlt]
    clear HR hat
    rw [← hbw.cell (p := ⟨g, o + k * 3, none⟩) hg] at c0
    rw [← hbw.cell (p := ⟨g, o + k * 3 + 1, none⟩) hg] at c1
    rw [← hbw.cell (p := ⟨g, o + k * 3 + 2, none⟩) hg] at c2
    have hsz := hbw.size
    generalize l[k] = s at *
    obtain ⟨b, key, ix⟩ := s
    simp only [] at c0 c1 c2
    cases b with
    | true =>
      rw [okSt_true] at HS
      by_cases e1 : key.size = 0
      case neg =>
        have HF : Hid (validP l = false) := by unfold Hid; rw [HV.out, HS.out, decide_eq_false (by omega)]; rfl
        have e1' : key.toList.isEmpty = false := by rw [Bool.eq_false_iff]; rw [ne_eq, neE]; exact e1
        clear HS HV e1
        go_wp2_with fail
        go_ret
        exact ⟨by rw [HF.out]; rfl, hbw⟩
      have e1' : key.toList.isEmpty = true := neE.2 e1
      by_cases e2 : ix < 0
      · have HF : Hid (validP l = false) := by unfold Hid; rw [HV.out, HS.out, decide_eq_false (by omega)]; rfl
        clear HS HV e1
        go_wp2_with fail
        go_ret
        exact ⟨by rw [HF.out]; rfl, hbw⟩
      by_cases e3 : 65536 < ix
      · have HF : Hid (validP l = false) := by unfold Hid; rw [HV.out, HS.out, decide_eq_false (by omega)]; rfl
        have e3' : ((65536 : Int) < ix) = True := eq_true e3
        clear HS HV e1 e3
        go_wp2_with fail
        go_ret
        exact ⟨by rw [HF.out]; rfl, hbw⟩
      have HF : Hid (l.all okSt = (l.drop (k + 1)).all okSt) := by unfold Hid; rw [HS.out, decide_eq_true (by omega), Bool.true_and]
      have e3' : ((65536 : Int) < ix) = False := eq_false e3
      clear HS e1 e3
      go_wp2_with fail
      exact ⟨⟨k + 1, by omega, rfl, HF, hbw⟩, by simp [intOf]; omega⟩
    | false =>
      rw [okSt_false] at HS
      by_cases e1 : ix = 0
      case neg =>
        have HF : Hid (validP l = false) := by unfold Hid; rw [HV.out, HS.out, decide_eq_false (by omega)]; rfl
        have e1' : (ix != 0) = true := by rw [bne_iff_ne]; exact e1
        clear HS HV e1
        go_wp2_with fail
        go_ret
        exact ⟨by rw [HF.out]; rfl, hbw⟩
      have e1' : (ix != 0) = false := by rw [bne_eq_false_iff_eq]; exact e1
      by_cases e2 : 1024 < key.size
      · have HF : Hid (validP l = false) := by unfold Hid; rw [HV.out, HS.out, decide_eq_false (by omega)]; rfl
        have e2' : (1024 : Int) < key.size := by omega
        clear HS HV e1 e2
        go_wp2_with fail
        go_ret
        exact ⟨by rw [HF.out]; rfl, hbw⟩
      have e2' : ¬ (1024 : Int) < key.size := by omega
      by_cases e3 : badL (L key) = (L key).length
      · have HF : Hid (l.all okSt = (l.drop (k + 1)).all okSt) := by unfold Hid; rw [HS.out, decide_eq_true ⟨e1, by omega, e3⟩, Bool.true_and]
        have e3' : validL (L key) = true := by rw [validL_iff]; exact decide_eq_true e3
        clear HS e1 e3
        go_wp2_with (go_at_call 35; refine (Valid3_any _ _ (by omega)).mono ?_; rintro e w1 ⟨rfl, hb1⟩)
        exact ⟨⟨k + 1, by omega, rfl, HF, hbw.trans (hb1.mono hsz)⟩, by simp [intOf]; omega⟩
      · have HF : Hid (validP l = false) := by unfold Hid; rw [HV.out, HS.out, decide_eq_false (fun h => e3 h.2.2)]; rfl
        have e3' : validL (L key) = false := by rw [validL_iff]; exact decide_eq_false e3
        clear HS HV e1 e3
        go_wp2_with (go_at_call 35; refine (Valid3_any _ _ (by omega)).mono ?_; rintro e w1 ⟨rfl, hb1⟩)
        go_ret
        exact ⟨by rw [HF.out]; rfl, hbw.trans (hb1.mono hsz)⟩
end Go.Proofs.YtemiihkmpojpgaaGreatDoor

namespace Go.Proofs.YtemiihkmpojpgaaGreatDoor
open Go.RowKit
set_option maxHeartbeats 1000000
set_option maxRecDepth 100000

/-- '==' of two steps. -/
theorem eqIn_step (x0 y0 : Bool) (x1 y1 : ByteArray) (x2 y2 : Int) (w : World) :
    (Op.equalIn 10000 81 (.agg #[.bool x0, .string x1, .int .i64 x2]) (.agg #[.bool y0, .string y1, .int .i64 y2])).run Tryz.prog w = .ok (decide ((x0, x1, x2) = (y0, y1, y2))) w := by
  have u1 := Tryz.underlying4
  have a1 := Tryz.isAgg4
  have z1 := Tryz.sizeOf4
  have u2 := Tryz.underlying9
  have a2 := Tryz.isAgg9
  have z2 := Tryz.sizeOf9
  have u3 := Tryz.underlying3
  have a3 := Tryz.isAgg3
  have z3 := Tryz.sizeOf3
  have hS : Tryz.prog.underlying 81 = some (.struct (Tryz.prog.fieldsOf 81)) := by kernel_rfl
  have hp : Tryz.prog.stoodInHeld 81 = false := by kernel_rfl
  rw [show (10000 : Nat) = 9999 + 1 from rfl, run_equalIn_agg w 9999 81 _ _ hS hp]
  simp only [Program.fieldsOf, Tryz.underlying81]
  go_simp
  by_cases h0 : x0 = y0 <;> by_cases h1 : x1 = y1 <;> by_cases h2 : x2 = y2 <;> simp [h0, h1, h2, toList_L, mt (L_inj (s := x1) (t := y1))]
theorem eq_step (l m : List St) (k : Nat) (hk : k < l.length) (hk' : k < m.length) (he : l.take k = m.take k) :
    (l[k] = m[k] → l.take (k + 1) = m.take (k + 1)) ∧ (l[k] ≠ m[k] → l ≠ m) := by
  refine ⟨fun h1 => ?_, fun h1 h2 => ?_⟩
  · rw [List.take_succ_eq_append_getElem hk, List.take_succ_eq_append_getElem hk', he, h1]
  · subst h2; exact h1 rfl
theorem REqual_any (v u : Value) (l m : List St) (w : World) (hv : Rd w v l) (hu : Rd w u m) :
    Calls Tryz.prog 30 #[v, u] w fun e w' => e = .returned (.bool (decide (l = m))) ∧ Below w.heap.size w w' := by
  obtain ⟨a, cap, rfl, hcap, hmax, _, hl⟩ := hv
  obtain ⟨b, cap', rfl, hcap', hmax', _, hm⟩ := hu
  simp only [maxLen] at hmax hmax'
  by_cases hlen : l.length = m.length
  case neg =>
    have HF : Hid (decide (l = m) = false) := decide_eq_false (fun h => hlen (by rw [h]))
    have h1 : ((l.length : Int) != m.length) = true := by rw [bne_iff_ne]; omega
    clear hlen
    go_enter Tryz.func30, Tryz.ntmps30
    go_wp2_with fail
    go_ret
    exact ⟨by rw [HF.out]; rfl, Below.refl _ _⟩
  have h1 : ((l.length : Int) != m.length) = false := by rw [bne_eq_false_iff_eq]; omega
  have HE := Lib.hid hlen; clear hlen
  have HL := Lib.hid hl; clear hl
  have HM := Lib.hid hm; clear hm
  go_enter Tryz.func30, Tryz.ntmps30
  go_wp2_with fail
  go_loopw [5] (fun n wr => ∃ k j : Nat, k ≤ l.length ∧ n = .int .i64 k ∧ Hid (l.take k = m.take k) ∧ wr = w.drewN j) (fun n _ => l.length - (intOf n).toNat)
  case atStart => exact ⟨0, 0, by omega, rfl, rfl, rfl⟩
  case round =>
    obtain ⟨k, j, hk, rfl, HR, rfl⟩ := hrel
    by_cases hlt : k < l.length
    case neg =>
      have HF : Hid (decide (l = m) = true) := by
        have h := HR.out
        rw [List.take_of_length_le (by omega), List.take_of_length_le (by have := HE.out; omega)] at h
        exact decide_eq_true h
      clear HR
      go_wp2_with fail
      go_ret
      exact ⟨by rw [HF.out]; rfl, ⟨rfl, rfl, rfl, Nat.le_refl _, fun _ _ => rfl⟩⟩
    have hlm : k < m.length := by have := HE.out; omega
    obtain ⟨g, o, rfl, hg, hat⟩ := HL.out (by intro h; subst h; simp at hlt)
    obtain ⟨g', o', rfl, hg', hat'⟩ := HM.out (by intro h; subst h; simp at hlm)
    obtain ⟨c0, c1, c2⟩ := hat k hlt
    obtain ⟨d0, d1, d2⟩ := hat' k hlm
    obtain ⟨HS1, HS2⟩ := eq_step l m k hlt hlm HR.out
    replace HS1 := Lib.hid HS1
    replace HS2 := Lib.hid HS2
    clear HR hat hat'
    generalize l[k] = s at *
    generalize m[k] = t at *
    obtain ⟨x0, x1, x2⟩ := s
    obtain ⟨y0, y1, y2⟩ := t
    simp only [] at c0 c1 c2 d0 d1 d2
    by_cases he : (x0, x1, x2) = (y0, y1, y2)
    · have HF := Lib.hid (HS1.out he)
      have hq : ∀ w', (Op.equalIn 10000 81 (.agg #[.bool x0, .string x1, .int .i64 x2]) (.agg #[.bool y0, .string y1, .int .i64 y2])).run Tryz.prog w' = .ok true w' := fun w' => by rw [eqIn_step, decide_eq_true he]
      clear HS1 HS2 he
      go_wp2_with fail
      go_quiet (fail)
      go_wp2_with fail
      exact ⟨⟨k + 1, _, by omega, rfl, HF, rfl⟩, by simp [intOf]; omega⟩
    · have HF : Hid (decide (l = m) = false) := decide_eq_false (HS2.out he)
      have hq : ∀ w', (Op.equalIn 10000 81 (.agg #[.bool x0, .string x1, .int .i64 x2]) (.agg #[.bool y0, .string y1, .int .i64 y2])).run Tryz.prog w' = .ok false w' := fun w' => by rw [eqIn_step, decide_eq_false he]
      clear HS1 HS2 he
      go_wp2_with fail
      go_quiet (fail)
      go_wp2_with fail
      go_ret
      exact ⟨by rw [HF.out]; rfl, ⟨rfl, rfl, rfl, Nat.le_refl _, fun _ _ => rfl⟩⟩
end Go.Proofs.YtemiihkmpojpgaaGreatDoor

namespace Go.Proofs.YtemiihkmpojpgaaGreatDoor
open Go.RowKit
set_option maxHeartbeats 1000000
set_option maxRecDepth 100000

def underL (l m : List St) : Bool := decide (m.length ≤ l.length ∧ l.take m.length = m)
end Go.Proofs.YtemiihkmpojpgaaGreatDoor

namespace Go.Proofs.YtemiihkmpojpgaaGreatDoor
open Go.RowKit
set_option maxHeartbeats 1000000
set_option maxRecDepth 100000

def cmpI (x y : Int) : Int := if x < y then -1 else if y < x then 1 else 0
def cmpS (x y : ByteArray) : Int := if Op.bytesLess x.toList y.toList = true then -1 else if x = y then 0 else 1
theorem toList_ne {x y : ByteArray} : (x.toList == y.toList) = decide (x = y) := by
  rw [toList_L, toList_L]
  by_cases h : x = y
  · subst h; simp
  · rw [decide_eq_false h, beq_eq_false_iff_ne]
    exact fun h' => h (L_inj h')
def stepC (s t : St) : Int := if s.1 && t.1 then cmpI s.2.2 t.2.2 else if s.1 then -1 else if t.1 then 1 else cmpS s.2.1 t.2.1
def cmpP : List St → List St → Int
  | x :: a, y :: b => if x = y then cmpP a b else stepC x y
  | a, b => cmpI a.length b.length
theorem cmpP_drop (l m : List St) (k : Nat) (h1 : k < l.length) (h2 : k < m.length) : cmpP (l.drop k) (m.drop k) = if l[k] = m[k] then cmpP (l.drop (k + 1)) (m.drop (k + 1)) else stepC l[k] m[k] := by
  rw [List.drop_eq_getElem_cons h1, List.drop_eq_getElem_cons h2]
  rfl
theorem cmpP_end (l m : List St) (k : Nat) (h : k = l.length ∧ k ≤ m.length ∨ k = m.length ∧ k ≤ l.length) : cmpP (l.drop k) (m.drop k) = cmpI l.length m.length := by
  have e : cmpP (l.drop k) (m.drop k) = cmpI (l.drop k).length (m.drop k).length := by
    rcases h with ⟨h, _⟩ | ⟨h, _⟩
    · rw [List.drop_of_length_le (l := l) (by omega)]
      cases m.drop k <;> rfl
    · rw [List.drop_of_length_le (l := m) (by omega)]
      cases l.drop k <;> rfl
  have e2 : ∀ x y : Int, cmpI (x - k) (y - k) = cmpI x y := by
    intro x y
    unfold cmpI
    repeat' split
    all_goals omega
  rw [e, List.length_drop, List.length_drop, Int.ofNat_sub (by omega), Int.ofNat_sub (by omega), e2]
end Go.Proofs.YtemiihkmpojpgaaGreatDoor
