/- Paths in memory; the packages path and datakitref08, walked: Valid. Conditions: none. -/
import Derived.Test.YthdninnjjmhpfaaPv1
import Derived.Deep.DeepCutAuto
import Derived.Deep.CutBlock
import Derived.Deep.QuietTactic
import Derived.BigQuiet
namespace Go.Proofs.Ythdninnjjmhpfaa
open Go.RowKit
set_option maxHeartbeats 1000000
set_option maxRecDepth 100000

/-- The cells of a path, from o on in block g. -/
def At3 (w : World) (g o : Nat) (l : List St) : Prop :=
  ∀ i (h : i < l.length), w.cell? ⟨g, o + i * 3, none⟩ = some (.bool l[i].1) ∧ w.cell? ⟨g, o + i * 3 + 1, none⟩ = some (.string l[i].2.1) ∧ w.cell? ⟨g, o + i * 3 + 2, none⟩ = some (.int .i64 l[i].2.2)
/-- v is a slice that reads as the path l. -/
def Rd (w : World) (v : Value) (l : List St) : Prop :=
  ∃ (a : Option Addr) (cap : Nat), v = .slice a l.length cap ∧ l.length ≤ cap ∧ cap ≤ maxLen ∧ (a = none → cap = 0) ∧ (l ≠ [] → ∃ g o, a = some ⟨g, o, none⟩ ∧ g < w.heap.size ∧ At3 w g o l)
theorem At3.below {w w' : World} {B g o : Nat} {l : List St} (h : At3 w g o l) (hb : Below B w w') (hg : g < B) : At3 w' g o l := by
  intro i hi
  obtain ⟨h0, h1, h2⟩ := h i hi
  exact ⟨(hb.cell hg).trans h0, (hb.cell hg).trans h1, (hb.cell hg).trans h2⟩
theorem Rd.below {w w' : World} {v : Value} {l : List St} (h : Rd w v l) (hb : Below w.heap.size w w') : Rd w' v l := by
  obtain ⟨a, cap, hv, h1, h2, h0, h3⟩ := h
  refine ⟨a, cap, hv, h1, h2, h0, fun hl => ?_⟩
  obtain ⟨g, o, ha, hg, hc⟩ := h3 hl
  exact ⟨g, o, ha, Nat.lt_of_lt_of_le hg hb.size, hc.below hb hg⟩
theorem At3.drew {w : World} {g o m : Nat} {l : List St} (h : At3 w g o l) : At3 (w.drewN m) g o l := h
theorem Rd.nil {w : World} : Rd w (.slice none 0 0) [] :=
  ⟨none, 0, rfl, Nat.zero_le _, Nat.zero_le _, fun _ => rfl, fun h => absurd rfl h⟩
/-- The first n steps. -/
theorem Rd.upto {w : World} {a : Option Addr} {cap : Nat} {l : List St} (h : Rd w (.slice a l.length cap) l) (n : Nat) (hn : n ≤ l.length) : Rd w (.slice a n cap) (l.take n) := by
  obtain ⟨a', cap', hv, h1, h2, h0, h3⟩ := h
  simp only [Value.slice.injEq, true_and] at hv
  obtain ⟨rfl, rfl⟩ := hv
  refine ⟨a, cap, by rw [List.length_take, Nat.min_eq_left hn], by rw [List.length_take]; omega, h2, h0, fun hl => ?_⟩
  obtain ⟨g, o, ha, hg, hc⟩ := h3 (by rintro rfl; simp at hl)
  refine ⟨g, o, ha, hg, fun i hi => ?_⟩
  rw [List.length_take] at hi
  rw [List.getElem_take]
  exact hc i (by omega)

/-- How the loop over the steps goes on. -/
theorem all_drop (l : List St) (k : Nat) (h : k < l.length) : (l.drop k).all okSt = (okSt l[k] && (l.drop (k + 1)).all okSt) := by
  rw [List.drop_eq_getElem_cons h, List.all_cons]
theorem neE {s : ByteArray} : (s.toList.isEmpty = true ↔ s.size = 0) := by
  rw [toList_L, List.isEmpty_iff, ← List.length_eq_zero_iff, L_len]
theorem validL_iff (s : ByteArray) : validL (L s) = decide (badL (L s) = (L s).length) := rfl
theorem okSt_true (k : ByteArray) (i : Int) : okSt (true, k, i) = decide (k.size = 0 ∧ 0 ≤ i ∧ i ≤ 65536) := rfl
theorem okSt_false (k : ByteArray) (i : Int) : okSt (false, k, i) = decide (i = 0 ∧ k.size ≤ 1024 ∧ badL (L k) = (L k).length) := rfl

end Go.Proofs.Ythdninnjjmhpfaa
