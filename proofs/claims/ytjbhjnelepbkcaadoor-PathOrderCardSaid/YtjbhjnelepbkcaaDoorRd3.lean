/- An argument that is an array of three slices of steps. Conditions: none. -/
import Derived.Test.YtjbhjnelepbkcaaDoorRdo
import Derived.OpenShut
namespace Go.Proofs.YtjbhjnelepbkcaaDoor
open Go.ChangeShapes Go.WideShapes Go.ChangeAt Go.RowKit Go.Deep
set_option maxRecDepth 100000
set_option maxHeartbeats 1000000

theorem rd_of_cell {H : Type} {enc : TypeId × Value → H} {W : World} {fuel : Nat} {c : Value} {x : DataW H × List MemPlace}
    (h : DataW.trod enc Tryd.prog W 0 (fun _ => true) true fuel 22 [c] = some x) : ∃ l, Rd W c l := by
  have hc : ∃ a len cap, c = .slice a len cap := by
    rcases open_slice Tryd.underlying22 h with ⟨hcs, _⟩ | ⟨a', len', cap', m, n, D, Pl, hcs, _⟩
    · simp only [List.cons.injEq, and_true] at hcs
      exact ⟨_, _, _, hcs⟩
    · simp only [List.cons.injEq, and_true] at hcs
      exact ⟨_, _, _, hcs⟩
  obtain ⟨a, len, cap, rfl⟩ := hc
  exact rd_of_row ⟨fuel, h⟩
theorem rd3_of_trod {H : Type} {enc : TypeId × Value → H} {W : World} {r : Reach} {b0 : Nat} {v : Value} {d : DataW H} {p : List MemPlace}
    (hok : Value.okWide Tryd.prog W r b0 43 v) (h : DataW.Trod enc Tryd.prog W 0 (fun _ => true) true 43 v d p) :
    ∃ v1 v2 v3 a b c, v = .agg #[v1, v2, v3] ∧ Rd W v1 a ∧ Rd W v2 b ∧ Rd W v3 c := by
  simp only [Value.okWide, Tryd.underlying43] at hok
  obtain ⟨⟨cs⟩, rfl, hsz, _⟩ := hok
  have hC3 : Tryd.prog.cellsOf 43 = 3 := by kernel_rfl
  have hC1 : Tryd.prog.cellsOf 22 = 1 := by kernel_rfl
  have hl : cs.length = 3 := hsz.trans hC3
  obtain ⟨fuel, hf⟩ := h
  obtain ⟨xs, m, _, _, _, hn, hi⟩ := DataW.trod_array Tryd.underlying43 hf
  rw [hC1] at hi
  match cs, hl with
  | [v1, v2, v3], _ =>
    match xs, hn with
    | [x1, x2, x3], _ =>
      obtain ⟨a, ha⟩ := rd_of_cell (show DataW.trod enc Tryd.prog W 0 (fun _ => true) true m 22 [v1] = some x1 from hi 0 (by decide))
      obtain ⟨b, hb⟩ := rd_of_cell (show DataW.trod enc Tryd.prog W 0 (fun _ => true) true m 22 [v2] = some x2 from hi 1 (by decide))
      obtain ⟨c, hc⟩ := rd_of_cell (show DataW.trod enc Tryd.prog W 0 (fun _ => true) true m 22 [v3] = some x3 from hi 2 (by decide))
      exact ⟨v1, v2, v3, a, b, c, rfl, ha, hb, hc⟩
end Go.Proofs.YtjbhjnelepbkcaaDoor
