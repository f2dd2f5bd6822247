/- An argument that is a slice of steps reads as a path; what the listed variables give the walks. Conditions: none. -/
import Derived.Test.YtjbhjnelepbkcaaDoorPs1
import Derived.Test.YtjbhjnelepbkcaaDoorQ2
import Derived.Deep.Slices
import Derived.LaidMore
import Derived.Stop.LaidErr
import Derived.Stop.Joined
import Derived.Lib.TrailingZeros
namespace Go.Proofs.YtjbhjnelepbkcaaDoor
open Go.ChangeShapes Go.WideShapes Go.ChangeAt Go.RowKit Go.Deep
set_option maxRecDepth 100000
set_option maxHeartbeats 1000000

theorem cell_lt {w : World} {g i : Nat} {v : Value} (h : w.cell? ⟨g, i, none⟩ = some v) : g < w.heap.size := by
  rcases Nat.lt_or_ge g w.heap.size with h' | h'
  · exact h'
  · simp [World.cell?, Array.getElem?_eq_none h'] at h
/-- One element. -/
theorem one_step {H : Type} {enc : TypeId × Value → H} {w : World} {base fuel : Nat} {spare : Nat → Bool} {held : Bool} {cs : List Value} {x : DataW H × List MemPlace}
    (h : DataW.trod enc Tryd.prog w base spare held fuel 26 cs = some x) : ∃ s : St, cs = [.bool s.1, .string s.2.1, .int .i64 s.2.2] := by
  obtain ⟨xs, n, _, _, hlen, _, hf⟩ := DataW.trod_struct Tryd.underlying26 h
  have hC : Tryd.prog.cellsOf 26 = 3 := by kernel_rfl
  have c1 : Tryd.prog.cellsOf 4 = 1 := by kernel_rfl
  have c2 : Tryd.prog.cellsOf 9 = 1 := by kernel_rfl
  have c3 : Tryd.prog.cellsOf 3 = 1 := by kernel_rfl
  rw [hC] at hlen
  match cs, hlen with
  | [a, b, c], _ =>
    have h0 : DataW.trod enc Tryd.prog w base spare held n 4 (([a, b, c].drop 0).take (Tryd.prog.cellsOf 4)) = xs[0]? := hf 0 _ rfl
    have h1 : DataW.trod enc Tryd.prog w base spare held n 9 (([a, b, c].drop 1).take (Tryd.prog.cellsOf 9)) = xs[1]? := hf 1 _ rfl
    have h2 : DataW.trod enc Tryd.prog w base spare held n 3 (([a, b, c].drop 2).take (Tryd.prog.cellsOf 3)) = xs[2]? := hf 2 _ rfl
    rw [c1] at h0
    rw [c2] at h1
    rw [c3] at h2
    have hx : xs.length = 3 := by assumption
    match xs, hx with
    | [y0, y1, y2], _ =>
      obtain ⟨b0, e0, _⟩ := DataW.trod_bool Tryd.underlying4 (show _ = some y0 from h0)
      obtain ⟨b1, e1, _⟩ := DataW.trod_string Tryd.underlying9 (show _ = some y1 from h1)
      obtain ⟨b2, e2, _⟩ := DataW.trod_int Tryd.underlying3 (show _ = some y2 from h2)
      have e0' : a = .bool b0 := by simpa using e0
      have e1' : b = .string b1 := by simpa using e1
      have e2' : c = .int .i64 b2 := by simpa using e2
      exact ⟨(b0, b1, b2), by rw [e0', e1', e2']⟩
theorem rd_of_row {H : Type} {enc : TypeId × Value → H} {W : World} {a : Option Addr} {len cap : Nat} {x : DataW H × List MemPlace}
    (h : ∃ fuel, DataW.trod enc Tryd.prog W 0 (fun _ => true) true fuel 22 [.slice a len cap] = some x) : ∃ l, Rd W (.slice a len cap) l := by
  obtain ⟨fuel, hf⟩ := h
  have hC : Tryd.prog.cellsOf 26 = 3 := by kernel_rfl
  rcases open_slice Tryd.underlying22 hf with ⟨hcs, _⟩ | ⟨a', len', cap', m, n, D, Pl, hcs, _, hl, hm, hmm, _, hi⟩
  · have hcs' : [Value.slice a len cap] = [.slice none 0 0] := hcs
    simp only [List.cons.injEq, and_true, Value.slice.injEq] at hcs'
    obtain ⟨rfl, rfl, rfl⟩ := hcs'
    exact ⟨[], Rd.nil⟩
  · have hcs' : [Value.slice a len cap] = [.slice (some a') len' cap'] := hcs
    simp only [List.cons.injEq, and_true, Value.slice.injEq] at hcs'
    obtain ⟨rfl, rfl, rfl⟩ := hcs'
    simp only [if_true] at hmm
    subst hmm
    rw [hC] at hi
    have each : ∀ i, i < m → ∃ s : St, W.cell? (a'.add (i * 3)) = some (.bool s.1) ∧ W.cell? (a'.add (i * 3 + 1)) = some (.string s.2.1) ∧ W.cell? (a'.add (i * 3 + 2)) = some (.int .i64 s.2.2) := by
      intro i him
      obtain ⟨cs', hc, ht⟩ := hi i him
      obtain ⟨s, rfl⟩ := one_step ht
      obtain ⟨_, _, hat⟩ := World.cells?_some hc
      refine ⟨s, ?_, ?_, ?_⟩
      · have := hat 0 (by decide)
        rw [Go.Deep.add_add] at this
        exact this
      · have := hat 1 (by decide)
        rw [Go.Deep.add_add] at this
        exact this
      · have := hat 2 (by decide)
        rw [Go.Deep.add_add] at this
        exact this
    obtain ⟨f, hfe⟩ : ∃ f : Nat → St, ∀ i, i < m → W.cell? (a'.add (i * 3)) = some (.bool (f i).1) ∧ W.cell? (a'.add (i * 3 + 1)) = some (.string (f i).2.1) ∧ W.cell? (a'.add (i * 3 + 2)) = some (.int .i64 (f i).2.2) := by
      refine ⟨fun i => if h : i < m then (each i h).choose else (false, ⟨#[]⟩, 0), fun i h => ?_⟩
      simp only [dif_pos h]
      exact (each i h).choose_spec
    refine ⟨(List.range len).map f, some a', m, by rw [List.length_map, List.length_range], by rw [List.length_map, List.length_range]; exact hl, hm, (fun h => by cases h), fun hne => ?_⟩
    have hlen : 0 < len := by
      rcases Nat.eq_zero_or_pos len with h0 | h0
      · exfalso; apply hne; rw [h0]; rfl
      · exact h0
    obtain ⟨g, o, sp⟩ := a'
    have h0 := (hfe 0 (by omega)).1
    have hsp : sp = none := by
      cases sp with
      | none => rfl
      | some q =>
        simp [Addr.add, World.cell?] at h0
        split at h0 <;> simp at h0
    subst hsp
    have hadd : ∀ k, (⟨g, o, none⟩ : Addr).add k = ⟨g, o + k, none⟩ := fun k => by unfold Addr.add; split <;> simp_all
    refine ⟨g, o, rfl, ?_, fun i hi => ?_⟩
    · rw [hadd] at h0
      exact cell_lt h0
    · rw [List.length_map, List.length_range] at hi
      obtain ⟨e0, e1, e2⟩ := hfe i (by omega)
      rw [hadd] at e0 e1 e2
      simp only [List.getElem_map, List.getElem_range]
      exact ⟨e0, by rw [Nat.add_assoc]; exact e1, by rw [Nat.add_assoc]; exact e2⟩

theorem rd_of_trod {H : Type} {enc : TypeId × Value → H} {W : World} {r : Reach} {b0 : Nat} {v : Value} {d : DataW H} {p : List MemPlace}
    (hok : Value.okWide Tryd.prog W r b0 22 v) (h : DataW.Trod enc Tryd.prog W 0 (fun _ => true) true 22 v d p) : ∃ l, Rd W v l := by
  obtain ⟨a, len, cap, rfl⟩ := okWide_slice Tryd.underlying22 hok
  exact rd_of_row h

/-! What the listed variables give. -/
abbrev laidL : List (String × DataW Unit) := Rows.pathValidRow.laid
theorem env_of_laid {W : World} (h : laidMetH Tryd.prog laidL W) : Env W := by
  rw [MakeChecks.laidMetH_plain _ _ _ (by kernel_rfl)] at h
  have h1 := laidMet.tail h
  have h2 := laidMet.tail h1
  have h4 := laidMet.tail (laidMet.tail h2)
  have d1 : (Rows.laid_math_bits_deBruijn64tab : DataW Unit) = Lib.tabData .u8 (Lib.deBruijn64tab.map fun n : Nat => (n : Int)) := by kernel_rfl
  have d2 : (Rows.laid_internal_strconv_uint64pow10 : DataW Unit) = Lib.tabData .u64 Lib.pow10Tab := by kernel_rfl
  rw [d1] at h1
  rw [d2] at h2
  have t4 := Lib.tabIs_of_head (P := Tryd.prog) (g := 4) (by kernel_rfl) (by kernel_rfl) Tryd.underlying108 Tryd.underlying5 (by kernel_rfl) (by kernel_rfl) h1
  have t2 := Lib.tabIs_of_head (P := Tryd.prog) (g := 2) (by kernel_rfl) (by kernel_rfl) Tryd.underlying97 Tryd.underlying81 (by kernel_rfl) (by kernel_rfl) h2
  have c4 := t4.cell (g := 4) (by kernel_rfl) 15 (by decide)
  have c4' : W.cell? ⟨4, 15, none⟩ = some (.int .u8 4) := c4
  obtain ⟨a0, s0, hv0, _⟩ := laid_sentinel h4 (g := 0) (by kernel_rfl) (by kernel_rfl) Tryd.underlying50 (tp := 103) (te := 105) (ts := 9) (fun u hu => typeName_ptr_named (nm := "errors.errorString") (by kernel_rfl) (by kernel_rfl) (by decide) u (hu.trans (congrArg some (by decide)))) Tryd.underlying103 Tryd.underlying105 rfl rfl Tryd.underlying9 (by kernel_rfl) (by kernel_rfl)
  have hc0 := World.var?_cell (g := 0) (by kernel_rfl) hv0 0
  refine ⟨t2, ?_, c4', _, hc0, .inr ⟨_, _, rfl⟩⟩
  have := cell_lt c4'
  omega
end Go.Proofs.YtjbhjnelepbkcaaDoor
