/- An argument that is a value (or a list of values) is read. Conditions: none. -/
import Derived.Test.YthdninnjjmhpfaaGreatDoorTv
namespace Go.Proofs.YthdninnjjmhpfaaGreatDoor
open Go.RowKit Go.ChangeShapes Go.Deep
set_option maxRecDepth 100000
set_option maxHeartbeats 1000000

theorem cell_lt {w : World} {g i : Nat} {v : Value} (h : w.cell? ⟨g, i, none⟩ = some v) : g < w.heap.size := by
  rcases Nat.lt_or_ge g w.heap.size with h' | h'
  · exact h'
  · simp [World.cell?, Array.getElem?_eq_none h'] at h
theorem pick {α : Type} (d : α) {n : Nat} {p : Nat → α → Prop} (h : ∀ i, i < n → ∃ x, p i x) : ∃ f : Nat → α, ∀ i, i < n → p i (f i) :=
  ⟨fun i => if hi : i < n then (h i hi).choose else d, fun i hi => by simp only [dif_pos hi]; exact (h i hi).choose_spec⟩
/-- A slice's elements are read each: what that says of its cells. -/
theorem sl_of {H : Type} {enc : TypeId × Value → H} {P : Program} {w : World} {fuel : Nat} {t e : TypeId} {v : Value} {x : DataW H × List MemPlace} {size : Nat} (hC : P.cellsOf e = size) (h0 : 0 < size) 
    {p : List Value → Prop} (ht : P.underlying t = some (.slice e)) (h : DataW.trod enc P w 0 (fun _ => true) true fuel t [v] = some x) (hw : WOk P t x.1)
    (hp : ∀ n cs y, n < fuel → DataW.trod enc P w 0 (fun _ => true) true n e cs = some y → WOk P e y.1 → p cs) (hlen : ∀ cs, p cs → cs.length = size) :
    ∃ (n : Nat) (c : Nat → List Value), Sl w v n size c ∧ n ≤ 1048576 ∧ ∀ i, i < n → p (c i) := by
  rcases open_sliceN ht h hw with h1 | ⟨a, len, cap, n, hn, h1, hl, hm, hr, hi⟩
  · simp only [List.cons.injEq, and_true] at h1
    subst h1
    exact ⟨0, fun _ => [], Sl.nil, by omega, fun i hi => absurd hi (Nat.not_lt_zero _)⟩
  simp only [List.cons.injEq, and_true] at h1
  subst h1
  obtain ⟨c, hc⟩ := pick (α := List Value) [] hi
  refine ⟨len, c, ⟨some a, cap, rfl, hl, ⟨by omega, hm⟩, (fun h => by cases h), fun hlen0 => ?_⟩, by omega, fun i him => ?_⟩
  · obtain ⟨g, o, sp⟩ := a
    have at' : ∀ i, i < len → ∀ j, j < size → w.cell? ((⟨g, o, sp⟩ : Addr).add (i * size + j)) = (c i)[j]? := by
      intro i him j hj
      obtain ⟨y, h2, _, _⟩ := hc i him
      rw [hC] at h2
      obtain ⟨_, _, hat⟩ := World.cells?_some h2
      have := hat j hj
      rw [Go.Deep.add_add] at this
      exact this
    have hsp : sp = none := by
      have h2 := at' 0 hlen0 0 h0
      obtain ⟨y, h3, h4, h5⟩ := hc 0 hlen0
      have h6 : (c 0).length = size := hlen _ (hp n _ y (by omega) h4 h5)
      rw [List.getElem?_eq_getElem (by omega)] at h2
      cases sp with
      | none => rfl
      | some q =>
        simp [Addr.add, World.cell?] at h2
        split at h2 <;> simp at h2
    subst hsp
    have hadd : ∀ k, (⟨g, o, none⟩ : Addr).add k = ⟨g, o + k, none⟩ := fun k => by unfold Addr.add; split <;> simp_all
    refine ⟨g, o, rfl, ?_, fun i him j hj => by rw [Nat.add_assoc, ← hadd]; exact at' i him j hj⟩
    have h2 := at' 0 hlen0 0 h0
    obtain ⟨y, h3, h4, h5⟩ := hc 0 hlen0
    have h6 : (c 0).length = size := hlen _ (hp n _ y (by omega) h4 h5)
    rw [List.getElem?_eq_getElem (by omega), hadd] at h2
    exact cell_lt h2
  · obtain ⟨y, _, h4, h5⟩ := hc i him
    exact hp n _ y (by omega) h4 h5

section
variable {H : Type} {enc : TypeId × Value → H} {W : World}
theorem one_dec {fuel : Nat} {cs : List Value} {x : DataW H × List MemPlace} (h : DataW.trod enc Tryz.prog W 0 (fun _ => true) true fuel 23 cs = some x) (hw : WOk Tryz.prog 23 x.1) :
    ∃ (neg : Bool) (ds : ByteArray) (exp : Int), cs = [.bool neg, .string ds, .int .i64 exp] ∧ ds.size ≤ 1000000000 ∧ I64 exp := by
  obtain ⟨n, _, hlen, hf⟩ := open_struct Tryz.underlying23 h hw
  have hC : Tryz.prog.cellsOf 23 = 3 := by kernel_rfl
  have c1 : Tryz.prog.cellsOf 4 = 1 := by kernel_rfl
  have c2 : Tryz.prog.cellsOf 9 = 1 := by kernel_rfl
  have c3 : Tryz.prog.cellsOf 3 = 1 := by kernel_rfl
  rw [hC] at hlen
  match cs, hlen with
  | [a, b, c], _ =>
    obtain ⟨y0, h0, _⟩ := hf 0 _ rfl
    obtain ⟨y1, h1, w1⟩ := hf 1 _ rfl
    obtain ⟨y2, h2, _⟩ := hf 2 _ rfl
    have h0 : DataW.trod enc Tryz.prog W 0 (fun _ => true) true n 4 (([a, b, c].drop 0).take (Tryz.prog.cellsOf 4)) = some y0 := h0
    have h1 : DataW.trod enc Tryz.prog W 0 (fun _ => true) true n 9 (([a, b, c].drop 1).take (Tryz.prog.cellsOf 9)) = some y1 := h1
    have h2 : DataW.trod enc Tryz.prog W 0 (fun _ => true) true n 3 (([a, b, c].drop 2).take (Tryz.prog.cellsOf 3)) = some y2 := h2
    rw [c1] at h0
    rw [c2] at h1
    rw [c3] at h2
    obtain ⟨b0, e0, _⟩ := DataW.trod_bool Tryz.underlying4 h0
    obtain ⟨b1, e1, x1, _⟩ := DataW.trod_string Tryz.underlying9 h1
    obtain ⟨b2, e2, _, wf⟩ := DataW.trod_int Tryz.underlying3 h2
    have e0' : a = .bool b0 := by simpa using e0
    have e1' : b = .string b1 := by simpa using e1
    have e2' : c = .int .i64 b2 := by simpa using e2
    rw [x1] at w1
    have hs := wok_string w1
    exact ⟨b0, b1, b2, by rw [e0', e1', e2'], by simpa using hs, i64_of_wf wf⟩
theorem one_time {fuel : Nat} {cs : List Value} {x : DataW H × List MemPlace} (h : DataW.trod enc Tryz.prog W 0 (fun _ => true) true fuel 25 cs = some x) (hw : WOk Tryz.prog 25 x.1) :
    ∃ a b c d : Int, cs = [.int .i64 a, .int .i64 b, .int .i64 c, .int .i64 d] ∧ I64 a ∧ I64 b ∧ I64 c ∧ I64 d := by
  obtain ⟨n, _, hlen, hf⟩ := open_struct Tryz.underlying25 h hw
  have hC : Tryz.prog.cellsOf 25 = 4 := by kernel_rfl
  have c3 : Tryz.prog.cellsOf 3 = 1 := by kernel_rfl
  rw [hC] at hlen
  match cs, hlen with
  | [a, b, c, d], _ =>
    obtain ⟨y0, h0, _⟩ := hf 0 _ rfl
    obtain ⟨y1, h1, _⟩ := hf 1 _ rfl
    obtain ⟨y2, h2, _⟩ := hf 2 _ rfl
    obtain ⟨y3, h3, _⟩ := hf 3 _ rfl
    have h0 : DataW.trod enc Tryz.prog W 0 (fun _ => true) true n 3 (([a, b, c, d].drop 0).take (Tryz.prog.cellsOf 3)) = some y0 := h0
    have h1 : DataW.trod enc Tryz.prog W 0 (fun _ => true) true n 3 (([a, b, c, d].drop 1).take (Tryz.prog.cellsOf 3)) = some y1 := h1
    have h2 : DataW.trod enc Tryz.prog W 0 (fun _ => true) true n 3 (([a, b, c, d].drop 2).take (Tryz.prog.cellsOf 3)) = some y2 := h2
    have h3 : DataW.trod enc Tryz.prog W 0 (fun _ => true) true n 3 (([a, b, c, d].drop 3).take (Tryz.prog.cellsOf 3)) = some y3 := h3
    rw [c3] at h0 h1 h2 h3
    obtain ⟨b0, e0, _, w0⟩ := DataW.trod_int Tryz.underlying3 h0
    obtain ⟨b1, e1, _, w1⟩ := DataW.trod_int Tryz.underlying3 h1
    obtain ⟨b2, e2, _, w2⟩ := DataW.trod_int Tryz.underlying3 h2
    obtain ⟨b3, e3, _, w3⟩ := DataW.trod_int Tryz.underlying3 h3
    have e0' : a = .int .i64 b0 := by simpa using e0
    have e1' : b = .int .i64 b1 := by simpa using e1
    have e2' : c = .int .i64 b2 := by simpa using e2
    have e3' : d = .int .i64 b3 := by simpa using e3
    exact ⟨b0, b1, b2, b3, by rw [e0', e1', e2', e3'], i64_of_wf w0, i64_of_wf w1, i64_of_wf w2, i64_of_wf w3⟩
theorem u8_val {n : Int} (h : (Lit.int .u8 n).wf = true) : Value.int .u8 n = bv (UInt8.ofNat n.toNat) := by
  unfold Lit.wf at h
  rw [Bool.and_eq_true] at h
  have h1 : (0 : Int) ≤ n := of_decide_eq_true h.1
  have h2 : n ≤ 255 := of_decide_eq_true h.2
  unfold bv
  congr 1
  simp
  omega
theorem rdb_of {fuel : Nat} {v : Value} {x : DataW H × List MemPlace} (h : DataW.trod enc Tryz.prog W 0 (fun _ => true) true fuel 26 [v] = some x) (hw : WOk Tryz.prog 26 x.1) : ∃ l : List UInt8, RdB W v l ∧ l.length ≤ 1000000000 := by
  obtain ⟨n, c, hs, hnn, hp⟩ := sl_of (size := 1) (e := 5) (by kernel_rfl) (by decide) (p := fun cs => ∃ b : UInt8, cs = [bv b]) Tryz.underlying26 h hw
    (fun n cs y _ h1 _ => by
      obtain ⟨b, e, _, wf⟩ := DataW.trod_int Tryz.underlying5 h1
      exact ⟨_, by rw [e, u8_val wf]⟩) (fun cs h => by obtain ⟨b, rfl⟩ := h; rfl)
  obtain ⟨f, hf⟩ := pick (0 : UInt8) hp
  obtain ⟨a, cap, rfl, h1, h2, h3, h4⟩ := hs
  refine ⟨(List.range n).map f, ⟨a, cap, by rw [List.length_map, List.length_range], by rw [List.length_map, List.length_range]; exact h1, by rw [List.length_map, List.length_range]; exact h2, h3, fun hn => ?_⟩, by rw [List.length_map, List.length_range]; omega⟩
  rw [List.length_map, List.length_range] at hn
  obtain ⟨g, o, ha, hg, hc⟩ := h4 hn
  refine ⟨g, o, ha, hg, fun i hi j hj => ?_⟩
  rw [List.length_map, List.length_range] at hi
  rw [hc i hi j hj, hf i hi]
  have : ((List.range n).map f).getD i 0 = f i := by
    rw [List.getD_eq_getElem?_getD, List.getElem?_eq_getElem (by simpa using hi)]
    simp
  dsimp only
  rw [this]
theorem cells_len (c : VC) : c.cells.length = 13 := rfl
/-- A value is read. -/
theorem rdv_of : ∀ (m fuel : Nat) (cs : List Value) (x : DataW H × List MemPlace), fuel ≤ m → DataW.trod enc Tryz.prog W 0 (fun _ => true) true fuel 30 cs = some x → WOk Tryz.prog 30 x.1 →
    ∃ c v, cs = c.cells ∧ RdV W c v := by
  intro m
  induction m with
  | zero =>
    intro fuel cs x hm h hw
    obtain rfl : fuel = 0 := by omega
    cases h
  | succ m ih =>
    intro fuel cs x hm h hw
    obtain ⟨n, hn, hlen, hf⟩ := open_struct Tryz.underlying30 h hw
    have hC : Tryz.prog.cellsOf 30 = 13 := by kernel_rfl
    have c1 : Tryz.prog.cellsOf 4 = 1 := by kernel_rfl
    have c2 : Tryz.prog.cellsOf 9 = 1 := by kernel_rfl
    have c3 : Tryz.prog.cellsOf 3 = 1 := by kernel_rfl
    have c4 : Tryz.prog.cellsOf 23 = 3 := by kernel_rfl
    have c5 : Tryz.prog.cellsOf 25 = 4 := by kernel_rfl
    have c6 : Tryz.prog.cellsOf 26 = 1 := by kernel_rfl
    have c7 : Tryz.prog.cellsOf 27 = 1 := by kernel_rfl
    have c8 : Tryz.prog.cellsOf 28 = 1 := by kernel_rfl
    rw [hC] at hlen
    match cs, hlen with
    | [a0, a1, a2, a3, a4, a5, a6, a7, a8, a9, a10, a11, a12], _ =>
      obtain ⟨y0, h0, _⟩ := hf 0 _ rfl
      obtain ⟨y1, h1, _⟩ := hf 1 _ rfl
      obtain ⟨y2, h2, w2⟩ := hf 2 _ rfl
      obtain ⟨y3, h3, w3⟩ := hf 3 _ rfl
      obtain ⟨y4, h4, w4⟩ := hf 4 _ rfl
      obtain ⟨y5, h5, w5⟩ := hf 5 _ rfl
      obtain ⟨y6, h6, w6⟩ := hf 6 _ rfl
      obtain ⟨y7, h7, w7⟩ := hf 7 _ rfl
      have h0 : DataW.trod enc Tryz.prog W 0 (fun _ => true) true n 3 (([a0, a1, a2, a3, a4, a5, a6, a7, a8, a9, a10, a11, a12].drop 0).take (Tryz.prog.cellsOf 3)) = some y0 := h0
      have h1 : DataW.trod enc Tryz.prog W 0 (fun _ => true) true n 4 (([a0, a1, a2, a3, a4, a5, a6, a7, a8, a9, a10, a11, a12].drop 1).take (Tryz.prog.cellsOf 4)) = some y1 := h1
      have h2 : DataW.trod enc Tryz.prog W 0 (fun _ => true) true n 23 (([a0, a1, a2, a3, a4, a5, a6, a7, a8, a9, a10, a11, a12].drop 2).take (Tryz.prog.cellsOf 23)) = some y2 := h2
      have h3 : DataW.trod enc Tryz.prog W 0 (fun _ => true) true n 25 (([a0, a1, a2, a3, a4, a5, a6, a7, a8, a9, a10, a11, a12].drop 5).take (Tryz.prog.cellsOf 25)) = some y3 := h3
      have h4 : DataW.trod enc Tryz.prog W 0 (fun _ => true) true n 9 (([a0, a1, a2, a3, a4, a5, a6, a7, a8, a9, a10, a11, a12].drop 9).take (Tryz.prog.cellsOf 9)) = some y4 := h4
      have h5 : DataW.trod enc Tryz.prog W 0 (fun _ => true) true n 26 (([a0, a1, a2, a3, a4, a5, a6, a7, a8, a9, a10, a11, a12].drop 10).take (Tryz.prog.cellsOf 26)) = some y5 := h5
      have h6 : DataW.trod enc Tryz.prog W 0 (fun _ => true) true n 27 (([a0, a1, a2, a3, a4, a5, a6, a7, a8, a9, a10, a11, a12].drop 11).take (Tryz.prog.cellsOf 27)) = some y6 := h6
      have h7 : DataW.trod enc Tryz.prog W 0 (fun _ => true) true n 28 (([a0, a1, a2, a3, a4, a5, a6, a7, a8, a9, a10, a11, a12].drop 12).take (Tryz.prog.cellsOf 28)) = some y7 := h7
      rw [c3] at h0
      rw [c1] at h1
      rw [c4] at h2
      rw [c5] at h3
      rw [c2] at h4
      rw [c6] at h5
      rw [c7] at h6
      rw [c8] at h7
      obtain ⟨b0, e0, _, wf0⟩ := DataW.trod_int Tryz.underlying3 h0
      obtain ⟨b1, e1, _⟩ := DataW.trod_bool Tryz.underlying4 h1
      obtain ⟨ng, ds, ex, e2, hds, hex⟩ := one_dec h2 w2
      obtain ⟨t0, t1, t2, t3, e3, ht0, ht1, ht2, ht3⟩ := one_time h3 w3
      obtain ⟨s4, e4, x4, _⟩ := DataW.trod_string Tryz.underlying9 h4
      rw [x4] at w4
      have hs4 := wok_string w4
      obtain ⟨bs, hbs, hbl⟩ := rdb_of (v := a10) (by simpa using h5) w5
      simp only [List.drop_zero, List.drop_succ_cons, List.take_succ_cons, List.take_zero, List.cons.injEq, and_true] at e0 e1 e2 e3 e4
      obtain ⟨rfl, rfl, rfl⟩ := e2
      obtain ⟨rfl, rfl, rfl, rfl⟩ := e3
      subst e0 e1 e4
      obtain ⟨nl, cl, hsl, _, hpl⟩ := sl_of (size := 13) (v := a11) (e := 30) hC (by decide) (p := fun cs => ∃ c v, cs = c.cells ∧ RdV W c v) Tryz.underlying27 (by simpa using h6) w6
        (fun k cs y hk h8 w8 => ih k cs y (by omega) h8 w8) (fun cs h => by obtain ⟨c, v, rfl, _⟩ := h; rfl)
      obtain ⟨nf, cf, hsf, _, hpf⟩ := sl_of (size := 14) (v := a12) (e := 67) (by kernel_rfl) (by decide) (p := fun cs => ∃ k c v, cs = .string k :: c.cells ∧ k.size ≤ 1000000000 ∧ RdV W c v) Tryz.underlying28 (by simpa using h7) w7
        (fun k cs y hk h8 w8 => by
          obtain ⟨n2, hn2, hlen2, hf2⟩ := open_struct Tryz.underlying67 h8 w8
          rw [show Tryz.prog.cellsOf 67 = 14 by kernel_rfl] at hlen2
          obtain ⟨z0, g0, v0⟩ := hf2 0 _ rfl
          obtain ⟨z1, g1, v1⟩ := hf2 1 _ rfl
          have g0 : DataW.trod enc Tryz.prog W 0 (fun _ => true) true n2 9 ((cs.drop 0).take (Tryz.prog.cellsOf 9)) = some z0 := g0
          have g1 : DataW.trod enc Tryz.prog W 0 (fun _ => true) true n2 30 ((cs.drop 1).take (Tryz.prog.cellsOf 30)) = some z1 := g1
          rw [c2] at g0
          rw [hC] at g1
          obtain ⟨s, e, xs, _⟩ := DataW.trod_string Tryz.underlying9 g0
          rw [xs] at v0
          have hss := wok_string v0
          obtain ⟨c, v, ec, hr⟩ := ih n2 _ z1 (by omega) g1 v1
          refine ⟨s, c, v, ?_, by simpa using hss, hr⟩
          match cs, hlen2 with
          | a :: r, hl =>
            simp only [List.length_cons] at hl
            simp only [List.drop_zero, List.take_succ_cons, List.take_zero, List.cons.injEq, and_true] at e
            simp only [List.drop_succ_cons, List.drop_zero] at ec
            rw [List.take_of_length_le (by omega)] at ec
            rw [e, ec]) (fun cs h => by obtain ⟨k, c, v, rfl, _⟩ := h; rfl)
      obtain ⟨lc, hlc⟩ := pick (⟨⟨b0, b1, ng, ds, ex, t0, t1, t2, t3, s4, bs⟩, a10, a11, a12⟩ : VC) hpl
      obtain ⟨lv, hlv⟩ := pick (V.mk ⟨b0, b1, ng, ds, ex, t0, t1, t2, t3, s4, bs⟩ [] []) hlc
      obtain ⟨fk, hfk⟩ := pick (⟨#[]⟩ : ByteArray) hpf
      obtain ⟨fc, hfc⟩ := pick (⟨⟨b0, b1, ng, ds, ex, t0, t1, t2, t3, s4, bs⟩, a10, a11, a12⟩ : VC) hfk
      obtain ⟨fv, hfv⟩ := pick (V.mk ⟨b0, b1, ng, ds, ex, t0, t1, t2, t3, s4, bs⟩ [] []) hfc
      refine ⟨⟨⟨b0, b1, ng, ds, ex, t0, t1, t2, t3, s4, bs⟩, a10, a11, a12⟩, .mk ⟨b0, b1, ng, ds, ex, t0, t1, t2, t3, s4, bs⟩ ((List.range nl).map lv) ((List.range nf).map fun i => (fk i, fv i)), rfl, ?_⟩
      refine .mk _ _ _ a10 a11 a12 lc fc ⟨i64_of_wf wf0, hex, ht0, ht1, ht2, ht3, hds, by simpa using hs4, hbl⟩ hbs ?_ ?_ ?_ ?_ ?_ (fun _ _ _ _ _ _ _ => trivial) (fun _ _ _ _ _ _ _ => trivial) (fun _ _ _ _ _ _ _ => trivial)
      · rw [List.length_map, List.length_range]
        obtain ⟨a, cap, e1, e2, e3, e4, e5⟩ := hsl
        refine ⟨a, cap, e1, e2, e3, e4, fun hn => ?_⟩
        obtain ⟨g, o, e6, e7, e8⟩ := e5 hn
        exact ⟨g, o, e6, e7, fun i hi j hj => by rw [e8 i hi j hj, (hlv i hi).1]⟩
      · intro i hi
        rw [List.length_map, List.length_range] at hi
        simp only [List.getElem_map, List.getElem_range]
        exact (hlv i hi).2
      · rw [List.length_map, List.length_range]
        obtain ⟨a, cap, e1, e2, e3, e4, e5⟩ := hsf
        refine ⟨a, cap, e1, e2, e3, e4, fun hn => ?_⟩
        obtain ⟨g, o, e6, e7, e8⟩ := e5 hn
        refine ⟨g, o, e6, e7, fun i hi j hj => ?_⟩
        rw [e8 i hi j hj, (hfv i hi).1]
        have hg : ((List.range nf).map fun i => (fk i, fv i)).getD i ((⟨#[]⟩ : ByteArray), V.mk ⟨b0, b1, ng, ds, ex, t0, t1, t2, t3, s4, bs⟩ ((List.range nl).map lv) ((List.range nf).map fun i => (fk i, fv i))) = (fk i, fv i) := by
          rw [List.getD_eq_getElem?_getD, List.getElem?_eq_getElem (by simpa using hi)]
          simp
        dsimp only
        rw [hg]
      · intro i hi
        rw [List.length_map, List.length_range] at hi
        simp only [List.getElem_map, List.getElem_range]
        exact (hfv i hi).2.1
      · intro i hi
        rw [List.length_map, List.length_range] at hi
        simp only [List.getElem_map, List.getElem_range]
        exact (hfv i hi).2.2
end
end Go.Proofs.YthdninnjjmhpfaaGreatDoor
