/- digits.reverse walked (under way). Conditions: at most 100 bytes. -/
import Derived.Test.YthdninnjjmhpfaaGreatDoorNp2
import Derived.RegionTactic
import Derived.BigRegion
namespace Go.Proofs.YthdninnjjmhpfaaGreatDoor
open Go.RowKit
set_option maxHeartbeats 4000000
set_option maxRecDepth 100000

/-- Block g holds the list, turned round up to i from both ends. -/
def RevAt (w wr : World) (g : Nat) (l : List UInt8) (i : Nat) : Prop :=
  Below g w wr ∧ g < wr.heap.size ∧ ∃ cur : Array Value, wr.heap[g]? = some (.cells cur 5 (0, 0)) ∧ ∀ j, j < l.length → cur[j]? = some (bv (if j < i ∨ l.length - i ≤ j then l.getD (l.length - 1 - j) 0 else l.getD j 0))
theorem RevAt.cell {w wr : World} {g i : Nat} {l : List UInt8} (h : RevAt w wr g l i) (j : Nat) (hj : j < l.length) (h1 : ¬ (j < i ∨ l.length - i ≤ j)) : wr.cell? ⟨g, j, none⟩ = some (bv (l.getD j 0)) := by
  obtain ⟨_, _, cur, hx, hc⟩ := h
  rw [cell_of_row wr g j _ _ (0, 0) hx, hc j hj, if_neg h1]
theorem RevAt.frozen {w wr : World} {g i : Nat} {l : List UInt8} (h : RevAt w wr g l i) (j : Nat) : wr.frozen? ⟨g, j, none⟩ = false := by
  obtain ⟨_, _, cur, hx, _⟩ := h
  simp [World.frozen?, hx]
theorem RevAt.swap {w wr w2 : World} {g i k : Nat} {l : List UInt8} (h : RevAt w wr g l i) (hik : i + k + 1 = l.length) (hlt : i < k) (h1 : Below g wr w2) (hs : g < w2.heap.size)
    (hx2 : ∀ cur, wr.heap[g]? = some (.cells cur 5 (0, 0)) → w2.heap[g]? = some (.cells ((cur.setIfInBounds i (bv (l.getD k 0))).setIfInBounds k (bv (l.getD i 0))) 5 (0, 0))) : RevAt w w2 g l (i + 1) := by
  obtain ⟨hb, hg, cur, hx, hc⟩ := h
  refine ⟨hb.trans h1, hs, _, hx2 cur hx, fun j hj => ?_⟩
  have hsz : ∀ j, j < l.length → j < cur.size := fun j hj => (Array.getElem?_eq_some_iff.1 (hc j hj)).1
  rw [Array.getElem?_setIfInBounds]
  by_cases hjk : k = j
  · subst hjk
    rw [if_pos rfl, if_pos (by rw [Array.size_setIfInBounds]; exact hsz k hj), if_pos (by omega), show l.length - 1 - k = i by omega]
  · rw [if_neg hjk, Array.getElem?_setIfInBounds]
    by_cases hji : i = j
    · subst hji
      rw [if_pos rfl, if_pos (hsz i hj), if_pos (by omega), show l.length - 1 - i = k by omega]
    · rw [if_neg hji, hc j hj]
      by_cases hc1 : j < i ∨ l.length - i ≤ j
      · rw [if_pos hc1, if_pos (by omega)]
      · rw [if_neg hc1, if_neg (by omega)]
theorem reverse_any (g cap : Nat) (l : List UInt8) (w : World) (hl : l.length ≤ 100) (h1 : 1 ≤ l.length) (h0 : RevAt w w g l 0) :
    Calls Tryz.prog 143 #[.slice (some ⟨g, 0, none⟩) l.length cap] w fun e w' => (∃ v, e = .returned v) ∧ RevAt w w' g l l.length := by
  have H0 := Lib.hid h0
  clear h0
  go_enter Tryz.func143, Tryz.ntmps143
  go_wp2_with fail
  go_loopw [2, 3] (fun iv kv wr => ∃ i k : Nat, i + k + 1 = l.length ∧ i ≤ k + 1 ∧ iv = .int .i64 i ∧ kv = .int .i64 k ∧ Hid (RevAt w wr g l i)) (fun iv kv _ => (intOf kv - intOf iv + 1).toNat)
  case atStart => exact ⟨0, l.length - 1, by omega, by omega, rfl, congrArg (Value.int .i64) (by omega), H0.out⟩
  case round =>
    clear H0
    obtain ⟨i, k, hik, hle, rfl, rfl, HC⟩ := hrel
    by_cases hlt : i < k
    case neg =>
      have HF : Hid (RevAt w wr g l l.length) := by
        obtain ⟨hb, hg, cur, hx, hc⟩ := HC.out
        refine ⟨hb, hg, cur, hx, fun j hj => ?_⟩
        rw [hc j hj, if_pos (show j < l.length ∨ l.length - l.length ≤ j from .inl hj)]
        by_cases hc1 : j < i ∨ l.length - i ≤ j
        · rw [if_pos hc1]
        · rw [if_neg hc1, show l.length - 1 - j = j by omega]
      clear HC
      go_wp2_with fail
      go_end0
      exact ⟨⟨_, rfl⟩, HF.out⟩
    have c1 := HC.out.cell i (by omega) (by omega)
    have c2 := HC.out.cell k (by omega) (by omega)
    have f1 := HC.out.frozen i
    have f2 := HC.out.frozen k
    have hii : (i : Int) < l.length := by omega
    have hki : (k : Int) < l.length := by omega
    have HSW := Lib.hid (fun w2 => RevAt.swap (w2 := w2) HC.out hik hlt)
    have HG := Lib.hid HC.out.2.1
    unfold bv at c1 c2 HSW
    generalize l.getD i 0 = x at *
    generalize l.getD k 0 = y at *
    clear HC
    go_wp2_with fail
    go_region
    go_wp2_with fail
    refine ⟨⟨i + 1, k - 1, by omega, by omega, by go_num, congrArg (Value.int .i64) (by omega), HSW.out _ ?_ ?_ ?_⟩, by simp [intOf]; omega⟩
    · exact (((Below.refl _ wr).setCell (p := ⟨g, i, none⟩) (Nat.le_refl _) _).setCell (p := ⟨g, k, none⟩) (Nat.le_refl _) _).drew
    · have := HG.out; simpa using this
    · exact fun cur hx => heap_setCell_same _ g k _ _ _ (heap_setCell_same wr g i _ _ _ hx)
end Go.Proofs.YthdninnjjmhpfaaGreatDoor
