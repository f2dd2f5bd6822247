/- An argument that is a list of changes is read. Conditions: none. -/
import Derived.Test.YthdninnjjmhpfaaDoorCh
import Derived.Test.YthdninnjjmhpfaaDoorTo
namespace Go.Proofs.YthdninnjjmhpfaaDoor
open Go.RowKit Go.ChangeShapes Go.Deep
set_option maxRecDepth 100000
set_option maxHeartbeats 1000000

section
variable {H : Type} {enc : TypeId × Value → H} {W : World}
theorem Rd.of_sl {v : Value} {n : Nat} {c : Nat → List Value} (h : Sl W v n 3 c) (hp : ∀ i, i < n → ∃ s : St, c i = stk s) : ∃ l, Rd W v l := by
  obtain ⟨f, hf⟩ := pick ((false, ⟨#[]⟩, 0) : St) hp
  obtain ⟨a, cap, rfl, h1, ⟨h2, h2'⟩, h3, h4⟩ := h
  refine ⟨(List.range n).map f, a, cap, by simp, by simpa using h1, h2', h3, fun hne => ?_⟩
  have h0 : 0 < n := by
    rcases Nat.eq_zero_or_pos n with h0 | h0
    · subst h0; exact absurd rfl hne
    · exact h0
  obtain ⟨g, o, ha, hg, hat⟩ := h4 h0
  refine ⟨g, o, ha, hg, fun i hi => ?_⟩
  rw [List.length_map, List.length_range] at hi
  have c0 := hat i hi 0 (by decide)
  have c1 := hat i hi 1 (by decide)
  have c2 := hat i hi 2 (by decide)
  rw [hf i hi] at c0 c1 c2
  simp only [List.getElem_map, List.getElem_range]
  exact ⟨c0, c1, c2⟩
theorem rdp_of {fuel : Nat} {v : Value} {x : DataW H × List MemPlace} (h : DataW.trod enc Tryd.prog W 0 (fun _ => true) true fuel 28 [v] = some x) (hw : WOk Tryd.prog 28 x.1) : ∃ l, Rd W v l := by
  have c1 : Tryd.prog.cellsOf 4 = 1 := by kernel_rfl
  have c2 : Tryd.prog.cellsOf 9 = 1 := by kernel_rfl
  have c3 : Tryd.prog.cellsOf 3 = 1 := by kernel_rfl
  obtain ⟨n, c, hs, _, hp⟩ := sl_of (size := 3) (v := v) (e := 65) (by kernel_rfl) (by decide) (p := fun cs => ∃ s : St, cs = stk s) Tryd.underlying28 h hw
    (fun k cs y _ h8 w8 => by
      obtain ⟨n2, _, hlen, hf⟩ := open_struct Tryd.underlying65 h8 w8
      rw [show Tryd.prog.cellsOf 65 = 3 by kernel_rfl] at hlen
      match cs, hlen with
      | [a, b, c], _ =>
        obtain ⟨z0, g0, _⟩ := hf 0 _ rfl
        obtain ⟨z1, g1, _⟩ := hf 1 _ rfl
        obtain ⟨z2, g2, _⟩ := hf 2 _ rfl
        have g0 : DataW.trod enc Tryd.prog W 0 (fun _ => true) true n2 4 (([a, b, c].drop 0).take (Tryd.prog.cellsOf 4)) = some z0 := g0
        have g1 : DataW.trod enc Tryd.prog W 0 (fun _ => true) true n2 9 (([a, b, c].drop 1).take (Tryd.prog.cellsOf 9)) = some z1 := g1
        have g2 : DataW.trod enc Tryd.prog W 0 (fun _ => true) true n2 3 (([a, b, c].drop 2).take (Tryd.prog.cellsOf 3)) = some z2 := g2
        rw [c1] at g0
        rw [c2] at g1
        rw [c3] at g2
        obtain ⟨b0, e0, _⟩ := DataW.trod_bool Tryd.underlying4 g0
        obtain ⟨b1, e1, _⟩ := DataW.trod_string Tryd.underlying9 g1
        obtain ⟨b2, e2, _⟩ := DataW.trod_int Tryd.underlying3 g2
        have e0' : a = .bool b0 := by simpa using e0
        have e1' : b = .string b1 := by simpa using e1
        have e2' : c = .int .i64 b2 := by simpa using e2
        exact ⟨(b0, b1, b2), by rw [e0', e1', e2']; rfl⟩) (fun cs h => by obtain ⟨s, rfl⟩ := h; rfl)
  exact Rd.of_sl hs hp
theorem rdc_of {fuel : Nat} {cs : List Value} {x : DataW H × List MemPlace} (h : DataW.trod enc Tryd.prog W 0 (fun _ => true) true fuel 39 cs = some x) (hw : WOk Tryd.prog 39 x.1) :
    ∃ c y, cs = CC.cells c ∧ RdC W (fun _ => True) c y := by
  obtain ⟨n, _, hlen, hf⟩ := open_struct Tryd.underlying39 h hw
  have c3 : Tryd.prog.cellsOf 3 = 1 := by kernel_rfl
  have c4 : Tryd.prog.cellsOf 28 = 1 := by kernel_rfl
  have c5 : Tryd.prog.cellsOf 37 = 13 := by kernel_rfl
  rw [show Tryd.prog.cellsOf 39 = 29 by kernel_rfl] at hlen
  match cs, hlen with
  | [a0, a1, a2, a3, a4, a5, a6, a7, a8, a9, a10, a11, a12, a13, a14, a15, a16, a17, a18, a19, a20, a21, a22, a23, a24, a25, a26, a27, a28], _ =>
    obtain ⟨z0, g0, _⟩ := hf 0 _ rfl
    obtain ⟨z1, g1, w1⟩ := hf 1 _ rfl
    obtain ⟨z2, g2, _⟩ := hf 2 _ rfl
    obtain ⟨z3, g3, w3⟩ := hf 3 _ rfl
    obtain ⟨z4, g4, w4⟩ := hf 4 _ rfl
    have g0 : DataW.trod enc Tryd.prog W 0 (fun _ => true) true n 3 (([a0, a1, a2, a3, a4, a5, a6, a7, a8, a9, a10, a11, a12, a13, a14, a15, a16, a17, a18, a19, a20, a21, a22, a23, a24, a25, a26, a27, a28].drop 0).take (Tryd.prog.cellsOf 3)) = some z0 := g0
    have g1 : DataW.trod enc Tryd.prog W 0 (fun _ => true) true n 28 (([a0, a1, a2, a3, a4, a5, a6, a7, a8, a9, a10, a11, a12, a13, a14, a15, a16, a17, a18, a19, a20, a21, a22, a23, a24, a25, a26, a27, a28].drop 1).take (Tryd.prog.cellsOf 28)) = some z1 := g1
    have g2 : DataW.trod enc Tryd.prog W 0 (fun _ => true) true n 3 (([a0, a1, a2, a3, a4, a5, a6, a7, a8, a9, a10, a11, a12, a13, a14, a15, a16, a17, a18, a19, a20, a21, a22, a23, a24, a25, a26, a27, a28].drop 2).take (Tryd.prog.cellsOf 3)) = some z2 := g2
    have g3 : DataW.trod enc Tryd.prog W 0 (fun _ => true) true n 37 (([a0, a1, a2, a3, a4, a5, a6, a7, a8, a9, a10, a11, a12, a13, a14, a15, a16, a17, a18, a19, a20, a21, a22, a23, a24, a25, a26, a27, a28].drop 3).take (Tryd.prog.cellsOf 37)) = some z3 := g3
    have g4 : DataW.trod enc Tryd.prog W 0 (fun _ => true) true n 37 (([a0, a1, a2, a3, a4, a5, a6, a7, a8, a9, a10, a11, a12, a13, a14, a15, a16, a17, a18, a19, a20, a21, a22, a23, a24, a25, a26, a27, a28].drop 16).take (Tryd.prog.cellsOf 37)) = some z4 := g4
    rw [c3] at g0 g2
    rw [c4] at g1
    rw [c5] at g3 g4
    obtain ⟨b0, e0, _, wf0⟩ := DataW.trod_int Tryd.underlying3 g0
    obtain ⟨b2, e2, _, wf2⟩ := DataW.trod_int Tryd.underlying3 g2
    obtain ⟨l, hl⟩ := rdp_of (v := a1) (by simpa using g1) w1
    obtain ⟨co, o, eo, ho⟩ := rdv_of _ _ _ _ (Nat.le_refl _) g3 w3
    obtain ⟨cn, nn, en, hn⟩ := rdv_of _ _ _ _ (Nat.le_refl _) g4 w4
    refine ⟨⟨b0, a1, b2, co, cn⟩, ⟨b0, l, b2, o, nn⟩, ?_, ⟨rfl, rfl, i64_of_wf wf0, i64_of_wf wf2, hl, (fun _ _ _ _ _ _ _ => trivial), ho, hn⟩⟩
    have e0' : a0 = .int .i64 b0 := by simpa using e0
    have e2' : a2 = .int .i64 b2 := by simpa using e2
    unfold CC.cells
    rw [← eo, ← en, e0', e2']
    rfl
theorem rdl_of {fuel : Nat} {v : Value} {x : DataW H × List MemPlace} (h : DataW.trod enc Tryd.prog W 0 (fun _ => true) true fuel 22 [v] = some x) (hw : WOk Tryd.prog 22 x.1) : ∃ xs, RdL W v xs := by
  obtain ⟨n, c, hs, _, hp⟩ := sl_of (size := 29) (v := v) (e := 39) (by kernel_rfl) (by decide) (p := fun cs => ∃ c y, cs = CC.cells c ∧ RdC W (fun _ => True) c y) Tryd.underlying22 h hw
    (fun k cs y _ h8 w8 => rdc_of h8 w8) (fun cs h => by obtain ⟨c, y, rfl, _⟩ := h; rfl)
  obtain ⟨cc, hcc⟩ := pick (⟨0, .slice none 0 0, 0, ⟨⟨0, false, false, ⟨#[]⟩, 0, 0, 0, 0, 0, ⟨#[]⟩, []⟩, .slice none 0 0, .slice none 0 0, .slice none 0 0⟩, ⟨⟨0, false, false, ⟨#[]⟩, 0, 0, 0, 0, 0, ⟨#[]⟩, []⟩, .slice none 0 0, .slice none 0 0, .slice none 0 0⟩⟩ : CC) hp
  obtain ⟨ys, hys⟩ := pick (⟨0, [], 0, .mk ⟨0, false, false, ⟨#[]⟩, 0, 0, 0, 0, 0, ⟨#[]⟩, []⟩ [] [], .mk ⟨0, false, false, ⟨#[]⟩, 0, 0, 0, 0, 0, ⟨#[]⟩, []⟩ [] []⟩ : Ch) hcc
  refine ⟨(List.range n).map ys, cc, ?_, fun i hi => ?_⟩
  · rw [List.length_map, List.length_range]
    obtain ⟨a, cap, e1, e2, e3, e4, e5⟩ := hs
    refine ⟨a, cap, e1, e2, e3, e4, fun hn => ?_⟩
    obtain ⟨g, o, e6, e7, e8⟩ := e5 hn
    exact ⟨g, o, e6, e7, fun i hi j hj => by rw [e8 i hi j hj, (hys i hi).1]⟩
  · rw [List.length_map, List.length_range] at hi
    simp only [List.getElem_map, List.getElem_range]
    exact (hys i hi).2
end
end Go.Proofs.YthdninnjjmhpfaaDoor
