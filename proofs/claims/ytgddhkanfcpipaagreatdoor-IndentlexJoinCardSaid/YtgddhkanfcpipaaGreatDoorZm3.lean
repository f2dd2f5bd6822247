/- The law IndentlexJoin walked. Conditions: the tables of unicode/utf8 as they are, a value of internal/bytealg.MaxLen. -/
import Derived.Test.YtgddhkanfcpipaaGreatDoorZm2
import Derived.Test.YtgddhkanfcpipaaGreatDoorZl1
import Derived.Test.YtgddhkanfcpipaaGreatDoorZm1
namespace Go.Proofs.YtgddhkanfcpipaaGreatDoor
open Go.RowKit Go.Shelf
set_option maxHeartbeats 2000000
set_option maxRecDepth 100000

/-- All blocks of cells other than block b and those of bytes are kept. -/
def KeepX (b : Nat) (w w' : World) : Prop := ∀ (x : Nat) (cs : Array Value) (t : TypeId), x ≠ b → t ≠ 5 → w.heap[x]? = some (.cells cs t (0, 0)) → w'.heap[x]? = some (.cells cs t (0, 0))
theorem copyCheck_keep (B b : Nat) (bs : List Value) (w : World) (h : Lib.IsBuilder 92 5 B b bs w) :
    Calls Tryz.prog 118 #[.pointer (some ⟨b, 0, none⟩)] w fun e w' => e = .returned (.tuple #[]) ∧ (Lib.BuilderAt 92 5 B b (.pointer (some ⟨b, 0, none⟩)) bs w' ∧ Below B w w' ∧ KeepX b w w') := by
  rcases h with h | h
  · refine (copyCheck_fresh b w h.cell0 h.shape h.frozen0).mono ?_
    rintro e w' ⟨rfl, rfl⟩
    exact ⟨rfl, h.used _, (Below.refl B w).setCell (p := ⟨b, 0, none⟩) h.1 _, fun x cs t hx _ hc => (Below.heap_setCell w ⟨b, 0, none⟩ _ x hx).trans hc⟩
  · refine (copyCheck_used b w h.cell0).mono ?_
    rintro e w' ⟨rfl, rfl⟩
    exact ⟨rfl, h, Below.refl B _, fun x cs t _ _ hc => hc⟩
theorem WriteString_keep (B b : Nat) (bs : List Value) (s : ByteArray) (w : World) (h : Lib.IsBuilder 92 5 B b bs w) (hlen : bs.length + s.size ≤ 140737488355328) (hBw : B ≤ w.heap.size) :
    Calls Tryz.prog 66 #[.pointer (some ⟨b, 0, none⟩), .string s] w fun e w' => e = .returned (.tuple #[.int .i64 s.size, .nilIface]) ∧ (Lib.BuilderAt 92 5 B b (.pointer (some ⟨b, 0, none⟩)) (bs ++ Lib.strCells s) w' ∧ Below B w w' ∧ KeepX b w w') := by
  obtain ⟨i0, hi, hz0, hz1, hz2⟩ := info_parts Tryz.Builder_Extra_169.infoByte
  have HL := Lib.hid hlen
  clear hlen
  go_enter Tryz.func66, Tryz.ntmps66
  go_wp2_with (go_at_call 118; refine (copyCheck_keep B b bs _ h).mono ?_)
  rintro e w1 ⟨rfl, h1, hb1, hk1⟩
  have HK1 := Lib.hid hk1
  clear hk1
  obtain ⟨hB, v, hbk, hown, hne⟩ := h1
  have c0 : w1.cell? ⟨b, 0, none⟩ = some (.pointer (some ⟨b, 0, none⟩)) := by rw [Lib.cell_of_heap hbk]; rfl
  have c1 : w1.cell? ⟨b, 1, none⟩ = some v := by rw [Lib.cell_of_heap hbk]; rfl
  go_wp2_with (at_builtin; refine Lib.wpList_append_own_string _ rfl _ _ 36 9 rfl B 5 i0 Tryz.underlying36 Tryz.underlying9 hi hz0 hz1 hz2 _ _ _ rfl hown s rfl ?c3 ?c4 ?c5 ?_)
  case c3 => have := HL.out; unfold maxLen; omega
  case c4 => exact HL.out
  case c5 => have := hb1.size; omega
  intro v' w2 hown' hgrow _
  have hlt : b < w1.heap.size := by
    rcases Nat.lt_or_ge b w1.heap.size with h' | h'
    · exact h'
    · simp [Array.getElem?_eq_none h'] at hbk
  have hb2 : w2.heap[b]? = some (.cells #[.pointer (some ⟨b, 0, none⟩), v] 92 (0, 0)) := by
    rw [hgrow.block b hlt (fun e => hne e.symm)]
    exact hbk
  have HK2 : Hid (KeepX b w w2) := by
    intro x cs t hx ht hc
    have h1 := HK1.out x cs t hx ht hc
    have hxl : x < w1.heap.size := (Array.getElem?_eq_some_iff.1 h1).1
    rw [hgrow.block x hxl ?_]
    · exact h1
    intro he
    rcases hown.2 with ⟨rfl, h0⟩ | ⟨g, cap, cur, rfl, hb, hg, -⟩
    · exact absurd he (by simp [Value.ownBlock])
    · have hgx : x = g := by simpa [Value.ownBlock] using he
      subst hgx
      rw [h1] at hg
      injection hg with hg
      injection hg with _ hg _
      exact ht hg
  have d0 : w2.cell? ⟨b, 0, none⟩ = some (.pointer (some ⟨b, 0, none⟩)) := by rw [Lib.cell_of_heap hb2]; rfl
  have d1 : w2.cell? ⟨b, 1, none⟩ = some v := by rw [Lib.cell_of_heap hb2]; rfl
  have f1 : w2.frozen? ⟨b, 1, none⟩ = false := Lib.frozen_of_heap hb2 1
  obtain ⟨ao, n', cap, rfl⟩ : ∃ ao n' cap, v' = .slice ao n' cap := by
    rcases hown'.2 with ⟨hv, _⟩ | ⟨g, cap, cur, hv, _⟩
    · exact ⟨_, _, _, hv⟩
    · exact ⟨_, _, _, hv⟩
  go_wp2_with fail
  go_ret2
  refine ⟨rfl, ?_, ?_, ?_⟩
  · exact Lib.BuilderAt.put (T := 92) (e := 5) hB hb2 (bs' := bs ++ Lib.strCells s) (by simpa [Lib.strCells_length] using hown') (by decide)
  · exact (hb1.grown hgrow (by have := hb1.size; omega) (fun k hk => (hown.lt k hk).1)).setCell (p := ⟨b, 1, none⟩) hB _
  · intro x cs t hx ht hc
    exact (Below.heap_setCell w2 ⟨b, 1, none⟩ _ x hx).trans (HK2.out x cs t hx ht hc)
theorem rep_spc : ∀ n, Lib.repeatL [32] n = List.replicate n 32
  | 0 => rfl
  | n + 1 => by
    rw [Lib.repeatL, rep_spc n, List.replicate_succ]
    rfl
theorem isb_alloc2 {T e : TypeId} {B b : Nat} {bs : List Value} {w : World} (h : Lib.IsBuilder T e B b bs w) (o : Obj) : Lib.IsBuilder T e B b bs (w.alloc o) := by
  have hb : ∀ p, Lib.BuilderAt T e B b p bs w → Lib.BuilderAt T e B b p bs (w.alloc o) := by
    rintro p ⟨hB, v, hh, hown, hne⟩
    have hlt : b < w.heap.size := by
      rcases Nat.lt_or_ge b w.heap.size with h' | h'
      · exact h'
      · simp [Array.getElem?_eq_none h'] at hh
    exact ⟨hB, v, (heap_alloc_old w o hlt).trans hh, hown.alloc o, hne⟩
  rcases h with h | h
  · exact .inl (hb _ h)
  · exact .inr (hb _ h)
theorem isb_below {T e : TypeId} {B b : Nat} {bs : List Value} {w w' : World} (h : Lib.IsBuilder T e B b bs w) (hb : Below w.heap.size w w') : Lib.IsBuilder T e B b bs w' := by
  have hh : ∀ p, Lib.BuilderAt T e B b p bs w → Lib.BuilderAt T e B b p bs w' := by
    rintro p ⟨hB, v, hh, hown, hne⟩
    have hlt : b < w.heap.size := (Array.getElem?_eq_some_iff.1 hh).1
    exact ⟨hB, v, (hb.block b hlt).trans hh, own_below hown hb, hne⟩
  rcases h with h | h
  · exact .inl (hh _ h)
  · exact .inr (hh _ h)
theorem joinL_snoc (M : List Ln) (k : Nat) (h : k < M.length) : joinL (M.take (k + 1)) = joinL (M.take k) ++ lnB M[k] := by
  unfold joinL
  rw [List.take_succ_eq_append_getElem h, List.flatMap_append]
  simp only [List.flatMap_cons, List.flatMap_nil, List.append_nil]
theorem joinL_le (M : List Ln) (k : Nat) : (joinL (M.take k)).length ≤ (joinL M).length := by
  have h : joinL M = joinL (M.take k) ++ joinL (M.drop k) := by
    unfold joinL
    rw [← List.flatMap_append, List.take_append_drop]
  rw [h, List.length_append]
  omega
theorem JoinI_any (M : List Ln) (A : Option Addr) (cap : Nat) (w : World) (hml : M.length ≤ 1048577)
    (hat : ∀ i (hi : i < M.length), ∃ g, A = some ⟨g, 0, none⟩ ∧ g < w.heap.size ∧ (w.cell? ⟨g, i * 5, none⟩ = some (.int .i64 (M[i].ind : Int)) ∧ w.cell? ⟨g, i * 5 + 1, none⟩ = some (.string ⟨M[i].text.toArray⟩) ∧ w.cell? ⟨g, i * 5 + 2, none⟩ = some (.string ⟨M[i].com.toArray⟩) ∧ w.cell? ⟨g, i * 5 + 3, none⟩ = some (.string ⟨M[i].fin.toArray⟩) ∧ w.cell? ⟨g, i * 5 + 4, none⟩ = some (.int .i64 (M[i].pos : Int))))
    (hlen : (joinL M).length ≤ 1000000000) :
    Calls Tryz.prog 25 #[.slice A M.length cap] w fun e w' => e = .returned (.string ⟨(joinL M).toArray⟩) ∧ Below w.heap.size w w' := by
  have HA := Lib.hid hat; clear hat
  have HL := Lib.hid hlen; clear hlen
  have hb0 : Lib.IsBuilder 92 5 w.heap.size w.heap.size [] (w.alloc (.cells #[.pointer none, .slice none 0 0] 92)) := Lib.fresh_isBuilder _ _ w
  have HB := Lib.hid hb0; clear hb0
  go_enter Tryz.func25, Tryz.ntmps25
  go_wp2_with fail
  go_loopw [5, 8] (fun _ cnt wr => ∃ k : Nat, k ≤ M.length ∧ cnt = .int .i64 (k : Int) ∧ Hid (Lib.IsBuilder 92 5 w.heap.size w.heap.size ((joinL (M.take k)).map bv) wr) ∧ Hid (Below w.heap.size w wr)) (fun _ cnt _ => M.length - (intOf cnt).toNat)
  case atStart => exact ⟨0, Nat.zero_le _, rfl, HB.out, (Below.refl _ _).alloc (Nat.le_refl _) _⟩
  case round =>
    clear HB
    obtain ⟨k, hk, rfl, HI, HBW⟩ := hrel
    have hk0 : (0 : Int) ≤ (k : Int) := by omega
    by_cases hlt : k < M.length
    case neg =>
      obtain rfl : k = M.length := by omega
      have HI2 : Hid (Lib.IsBuilder 92 5 w.heap.size w.heap.size (Lib.byteCells (joinL M)) wr) := by
        have := HI.out
        rw [List.take_length] at this
        exact this
      clear HI
      go_wp2_with (go_at_call 68; refine (String_any _ _ _ _ HI2.out HBW.out.size).mono ?_; rintro e w2 ⟨rfl, hb2⟩)
      go_ret
      exact ⟨rfl, HBW.out.trans hb2⟩
    obtain ⟨g, rfl, hg, a0, a1, a2, a3, a4⟩ := HA.out k hlt
    have c0 := (HBW.out.cell (p := ⟨g, k * 5, none⟩) hg).trans a0
    have c1 := (HBW.out.cell (p := ⟨g, k * 5 + 1, none⟩) hg).trans a1
    have c2 := (HBW.out.cell (p := ⟨g, k * 5 + 2, none⟩) hg).trans a2
    have c3 := (HBW.out.cell (p := ⟨g, k * 5 + 3, none⟩) hg).trans a3
    have c4 := (HBW.out.cell (p := ⟨g, k * 5 + 4, none⟩) hg).trans a4
    have hl := joinL_le M (k + 1)
    rw [joinL_snoc M k hlt] at hl
    have HSN := Lib.hid (joinL_snoc M k hlt)
    generalize M[k] = x at *
    obtain ⟨ind, text, com, fin, pos⟩ := x
    obtain ⟨acc, hacc⟩ : ∃ acc, acc = joinL (M.take k) := ⟨_, rfl⟩
    rw [← hacc] at HI HSN hl
    have HLN : Hid (acc.length + ind + text.length + com.length + fin.length ≤ 1000000000) := by
      have h1 := HL.out
      unfold Hid
      unfold lnB at hl
      simp only [List.length_append, List.length_replicate] at hl
      omega
    have hib : ind ≤ 1000000000 := by have := HLN.out; omega
    dsimp only at c0 c1 c2 c3 c4
    clear a0 a1 a2 a3 a4 hl hacc hg
    have HNE : Hid (wr.heap.size ≠ w.heap.size) := by
      have h1 : w.heap.size < wr.heap.size := by
        rcases HI.out with h | h
        · exact (Array.getElem?_eq_some_iff.1 h.2.choose_spec.1).1
        · exact (Array.getElem?_eq_some_iff.1 h.2.choose_spec.1).1
      unfold Hid
      omega
    go_upto_region 5 with fail
    generalize hW1 : World.alloc wr _ = w1
    obtain ⟨ha1, -, hz1, hb1⟩ := alloc_of hW1
    have HX : Hid (w1.heap[wr.heap.size]? = some (.cells [.int .i64 (ind : Int), .string ⟨text.toArray⟩, .string ⟨com.toArray⟩, .string ⟨fin.toArray⟩, .int .i64 (pos : Int)].toArray 30 (0, 0))) := ha1
    replace HI := Lib.hid (isb_below HI.out hb1)
    replace HBW := Lib.hid (HBW.out.trans (hb1.mono HBW.out.size))
    clear hW1 ha1 hz1 hb1 c0 c1 c2 c3 c4
    obtain ⟨d0, -, -, -, -⟩ := row5 HX.out
    go_upto_if 14 with fail
    go_cut [15, 16, 17, 18] (fun _ _ _ _ wx => Hid (wx.heap[wr.heap.size]? = some (.cells [.int .i64 (ind : Int), .string ⟨text.toArray⟩, .string ⟨com.toArray⟩, .string ⟨fin.toArray⟩, .int .i64 (pos : Int)].toArray 30 (0, 0))) ∧ Hid (Lib.IsBuilder 92 5 w.heap.size w.heap.size ((acc ++ List.replicate ind 32).map bv) wx) ∧ Hid (Below w.heap.size w wx))
    case first =>
      by_cases h0 : 0 < ind
      · have g0 : (0 : Int) < (ind : Int) := by omega
        clear h0
        go_wp2_with fail
        refine (Tryz.strings_Repeat ⟨#[32]⟩ ind w1 (by omega) (by show 1 * ind ≤ _; omega)).mono ?_
        rintro e w2 ⟨rfl, hb2⟩
        replace HX := Lib.hid ((hb2.block _ (Array.getElem?_eq_some_iff.1 HX.out).1).trans HX.out)
        replace HI := Lib.hid (isb_below HI.out hb2)
        replace HBW := Lib.hid (HBW.out.trans (hb2.mono HBW.out.size))
        have hrp : (⟨(Lib.repeatL (⟨#[32]⟩ : ByteArray).data.toList ind).toArray⟩ : ByteArray) = ⟨(List.replicate ind 32).toArray⟩ := by
          show (⟨(Lib.repeatL [32] ind).toArray⟩ : ByteArray) = _
          rw [rep_spc]
        rw [hrp]
        have hrz : (⟨(List.replicate ind 32).toArray⟩ : ByteArray).size = ind := by rw [← L_len, L_mk, List.length_replicate]
        have HRC : Hid ((acc.map bv) ++ Lib.strCells ⟨(List.replicate ind 32).toArray⟩ = (acc ++ List.replicate ind 32).map bv) := by
          unfold Hid
          rw [strCells_L, L_mk, List.map_append]
        have HRL : Hid ((acc.map bv).length + (⟨(List.replicate ind 32).toArray⟩ : ByteArray).size ≤ 140737488355328) := by
          unfold Hid
          rw [hrz, List.length_map]
          have := HLN.out
          omega
        clear hb2 d0 hrp hrz
        go_wp2_with fail
        refine (WriteString_keep _ _ _ _ _ HI.out HRL.out HBW.out.size).mono ?_
        rintro e w3 ⟨rfl, hbd, hb3, hk3⟩
        replace HX := Lib.hid (hk3 _ _ _ HNE.out (by decide) HX.out)
        have HI3 : Hid (Lib.IsBuilder 92 5 w.heap.size w.heap.size ((acc ++ List.replicate ind 32).map bv) w3) := by
          unfold Hid
          rw [← HRC.out]
          exact .inr hbd
        replace HBW := Lib.hid (HBW.out.trans hb3)
        clear hbd hb3 hk3 HI HRC HRL
        go_wp2_with fail
        go_meet
        exact ⟨HX, HI3, HBW⟩
      · obtain rfl : ind = 0 := by omega
        have HI3 : Hid (Lib.IsBuilder 92 5 w.heap.size w.heap.size ((acc ++ List.replicate 0 32).map bv) w1) := by
          unfold Hid
          rw [List.replicate_zero, List.append_nil]
          exact HI.out
        clear h0
        go_wp2_with fail
        go_meet
        exact ⟨HX, HI3, HBW⟩
    case rest =>
    obtain ⟨HX2, HI2, HBW2⟩ := hcut
    clear HX HI HBW d0
    obtain ⟨ac, hac⟩ : ∃ ac, ac = acc ++ List.replicate ind 32 := ⟨_, rfl⟩
    rw [← hac] at HI2
    have HAC := Lib.hid hac
    have hacl : ac.length = acc.length + ind := by rw [hac, List.length_append, List.length_replicate]
    replace HLN : Hid (ac.length + text.length + com.length + fin.length ≤ 1000000000) := by
      have := HLN.out
      unfold Hid
      omega
    clear hac hacl
    obtain ⟨z0, z1, z2, z3, z4⟩ := row5 HX2.out
    have HRC : Hid ((ac.map bv) ++ Lib.strCells ⟨text.toArray⟩ = (ac ++ text).map bv) := by
      unfold Hid
      rw [strCells_L, L_mk]
      simp only [List.map_append]
    have HRL : Hid ((ac.map bv).length + (⟨text.toArray⟩ : ByteArray).size ≤ 140737488355328) := by
      unfold Hid
      rw [← L_len, L_mk, List.length_map]
      have := HLN.out
      try simp only [List.length_append]
      omega
    go_wp2_with fail
    refine (WriteString_keep _ _ _ _ _ HI2.out HRL.out HBW2.out.size).mono ?_
    rintro e w5 ⟨rfl, hbd, hb3, hk3⟩
    replace HX2 := Lib.hid (hk3 _ _ _ HNE.out (by decide) HX2.out)
    replace HI2 : Hid (Lib.IsBuilder 92 5 w.heap.size w.heap.size ((ac ++ text).map bv) w5) := by
      unfold Hid
      rw [← HRC.out]
      exact .inr hbd
    replace HBW2 := Lib.hid (HBW2.out.trans hb3)
    clear hbd hb3 hk3 HRC HRL z0 z1 z2 z3 z4
    obtain ⟨z0, z1, z2, z3, z4⟩ := row5 HX2.out
    have HRC : Hid (((ac ++ text).map bv) ++ Lib.strCells ⟨com.toArray⟩ = ((ac ++ text) ++ com).map bv) := by
      unfold Hid
      rw [strCells_L, L_mk]
      simp only [List.map_append]
    have HRL : Hid (((ac ++ text).map bv).length + (⟨com.toArray⟩ : ByteArray).size ≤ 140737488355328) := by
      unfold Hid
      rw [← L_len, L_mk, List.length_map]
      have := HLN.out
      try simp only [List.length_append]
      omega
    go_wp2_with fail
    refine (WriteString_keep _ _ _ _ _ HI2.out HRL.out HBW2.out.size).mono ?_
    rintro e w6 ⟨rfl, hbd, hb3, hk3⟩
    replace HX2 := Lib.hid (hk3 _ _ _ HNE.out (by decide) HX2.out)
    replace HI2 : Hid (Lib.IsBuilder 92 5 w.heap.size w.heap.size (((ac ++ text) ++ com).map bv) w6) := by
      unfold Hid
      rw [← HRC.out]
      exact .inr hbd
    replace HBW2 := Lib.hid (HBW2.out.trans hb3)
    clear hbd hb3 hk3 HRC HRL z0 z1 z2 z3 z4
    obtain ⟨z0, z1, z2, z3, z4⟩ := row5 HX2.out
    have HRC : Hid ((((ac ++ text) ++ com).map bv) ++ Lib.strCells ⟨fin.toArray⟩ = (((ac ++ text) ++ com) ++ fin).map bv) := by
      unfold Hid
      rw [strCells_L, L_mk]
      simp only [List.map_append]
    have HRL : Hid ((((ac ++ text) ++ com).map bv).length + (⟨fin.toArray⟩ : ByteArray).size ≤ 140737488355328) := by
      unfold Hid
      rw [← L_len, L_mk, List.length_map]
      have := HLN.out
      try simp only [List.length_append]
      omega
    go_wp2_with fail
    refine (WriteString_keep _ _ _ _ _ HI2.out HRL.out HBW2.out.size).mono ?_
    rintro e w7 ⟨rfl, hbd, hb3, hk3⟩
    replace HX2 := Lib.hid (hk3 _ _ _ HNE.out (by decide) HX2.out)
    replace HI2 : Hid (Lib.IsBuilder 92 5 w.heap.size w.heap.size ((((ac ++ text) ++ com) ++ fin).map bv) w7) := by
      unfold Hid
      rw [← HRC.out]
      exact .inr hbd
    replace HBW2 := Lib.hid (HBW2.out.trans hb3)
    clear hbd hb3 hk3 HRC HRL z0 z1 z2 z3 z4
    have HN : Hid ((ac ++ text) ++ com ++ fin = joinL (M.take (k + 1))) := by
      unfold Hid
      rw [HSN.out, HAC.out]
      unfold lnB
      simp only [List.append_assoc]
    rw [HN.out] at HI2
    clear HX2 HSN HAC HN HLN
    go_wp2_with fail
    exact ⟨⟨k + 1, by omega, by go_num, HI2.out, HBW2.out⟩, by simp [intOf]; omega⟩
end Go.Proofs.YtgddhkanfcpipaaGreatDoor

namespace Go.Proofs.YtgddhkanfcpipaaGreatDoor
open Go.RowKit
set_option maxHeartbeats 2000000
set_option maxRecDepth 100000

theorem mk_ne {l : List UInt8} {b : UInt8} (h : l.head? ≠ some b) (hp : 0 < (⟨l.toArray⟩ : ByteArray).size) : (⟨l.toArray⟩ : ByteArray)[0] ≠ b := by
  intro h1
  apply h
  rw [← h1, List.head?_eq_getElem?, List.getElem?_eq_getElem (by rw [← L_len, L_mk] at hp; exact hp)]
  rfl
theorem last_ne {l : List UInt8} {b : UInt8} (h : l.getLast? ≠ some b) (hq : (⟨l.toArray⟩ : ByteArray).size - 1 < (⟨l.toArray⟩ : ByteArray).size) : (⟨l.toArray⟩ : ByteArray)[(⟨l.toArray⟩ : ByteArray).size - 1] ≠ b := by
  intro h1
  apply h
  have hz : (⟨l.toArray⟩ : ByteArray).size = l.length := by rw [← L_len, L_mk]
  rw [← h1, List.getLast?_eq_getElem?, List.getElem?_eq_getElem (by omega)]
  rfl
/-- What the law asks of each line. -/
structure LnOK (x : Ln) (last : Bool) (n : Nat) : Prop where
  hd : x.text.head? ≠ some 32
  la : x.text.getLast? ≠ some 32
  fi : x.fin = [10] ∨ x.fin = [13, 10] ∨ (x.fin = [] ∧ last = true)
  co : comOK x.com
  sz : x.ind + x.text.length + (x.com.length + x.fin.length) = n
theorem lnOK_of (s : ByteArray) (k : Nat) (hk : k < (lnsB s).length) (pos : Nat) : LnOK (lineP (L (lnsB s)[k]) pos) (decide (¬ k + 1 < (lnsB s).length)) (lnsB s)[k].size := by
  refine ⟨(text_ok _ _).1, (text_ok _ _).2, ?_, com_ok _ _, ?_⟩
  · rcases fin_is (L (lnsB s)[k]) pos with (h | h) | ⟨h, h2⟩
    · exact .inl h
    · exact .inr (.inl h)
    · refine .inr (.inr ⟨h2, decide_eq_true fun hlt => h ?_⟩)
      exact lnF_last s s.size 0 0 (Nat.le_refl _) (Nat.zero_le _) k hlt _ (List.getElem?_eq_getElem hk)
  · have h := congrArg List.length (lnB_lineP (L (lnsB s)[k]) pos)
    rw [L_len] at h
    rw [← h]
    unfold lnB
    simp only [List.length_append, List.length_replicate]
    omega
def posN (bs : List ByteArray) (k : Nat) : Nat := ((bs.take k).flatMap L).length
theorem posN_succ (bs : List ByteArray) (k : Nat) (h : k < bs.length) : posN bs (k + 1) = posN bs k + bs[k].size := by
  unfold posN
  rw [List.take_succ_eq_append_getElem h, List.flatMap_append, List.length_append]
  simp only [List.flatMap_cons, List.flatMap_nil, List.append_nil, L_len]
theorem posN_all (s : ByteArray) : posN (lnsB s) (lnsB s).length = s.size := by
  unfold posN
  rw [List.take_length, lns_flat, L_len]
theorem posN_le (bs : List ByteArray) : ∀ k, posN bs k ≤ (bs.flatMap L).length := by
  intro k
  have h : bs.flatMap L = (bs.take k).flatMap L ++ (bs.drop k).flatMap L := by rw [← List.flatMap_append, List.take_append_drop]
  rw [h, List.length_append]
  unfold posN
  omega
theorem JoinsI_any (s : ByteArray) (w : World) (hE : EnvI w) :
    Calls Tryz.prog 8 #[.string s] w fun e w' => e = .returned (.bool true) ∧ Below w.heap.size w w' := by
  have HE := Lib.hid hE
  clear hE
  by_cases hs : 2000 < s.size
  · have h1 : (2000 : Int) < s.size := by omega
    go_enter Tryz.func8, Tryz.ntmps8
    go_wp2_with (go_at_call 11; refine (awake21_any _ HE.out).mono ?_; rintro e w1 ⟨rfl, hb1⟩)
    go_ret
    exact ⟨rfl, hb1⟩
  have h1 : ¬ (2000 : Int) < s.size := by omega
  have HK := Lib.hid (ILines_any s w (by omega) HE.out.tab)
  by_cases hbad : badL (L s) < s.size
  case pos =>
    have hr : linesR s = ([], badL (L s), 5) := by
      unfold linesR
      rw [if_neg (by omega), if_pos hbad]
    rw [hr] at HK
    clear hr hbad hs
    generalize badL (L s) = bd at *
    go_enter Tryz.func8, Tryz.ntmps8
    go_wp2_with fail
    refine HK.out.mono ?_
    rintro e1 w1 ⟨v1, rfl, ⟨b1, hbb1, hown1⟩, hb1⟩
    dsimp only at hown1
    obtain ⟨A1, cap1, rfl, -⟩ := own_lns hown1
    have HB1 := Lib.hid hb1
    clear hb1 hown1 hbb1
    go_wp2_with (go_at_call 11; refine (awake21_any _ (HE.out.below HB1.out)).mono ?_; rintro e w3 ⟨rfl, hb3⟩)
    go_ret
    exact ⟨rfl, HB1.out.trans (hb3.mono HB1.out.size)⟩
  have hr : linesR s = (lnV 0 (lnsB s), 0, 0) := by
    unfold linesR
    rw [if_neg (by omega), if_neg hbad]
  rw [hr] at HK
  have hjb := join_back s
  have hLN : ∀ k (hk : k < (lnV 0 (lnsB s)).length), (lnV 0 (lnsB s))[k].pos = posN (lnsB s) k ∧ LnOK (lnV 0 (lnsB s))[k] (decide (¬ k + 1 < (lnV 0 (lnsB s)).length)) (posN (lnsB s) (k + 1) - posN (lnsB s) k) := by
    intro k hk
    have hk2 : k < (lnsB s).length := by rw [lnV_len] at hk; exact hk
    have h2 := lnV_at 0 (lnsB s) k hk2
    rw [List.getElem?_eq_getElem hk] at h2
    rw [Option.some.inj h2, lnV_len]
    refine ⟨by show 0 + _ = _; rw [Nat.zero_add]; rfl, ?_⟩
    rw [posN_succ _ _ hk2, Nat.add_sub_cancel_left]
    exact lnOK_of s k hk2 _
  have hpa : posN (lnsB s) (lnV 0 (lnsB s)).length = s.size := by rw [lnV_len]; exact posN_all s
  have hps : ∀ k, k < (lnV 0 (lnsB s)).length → posN (lnsB s) k ≤ posN (lnsB s) (k + 1) := fun k hk => by
    rw [posN_succ _ _ (by rw [lnV_len] at hk; exact hk)]
    omega
  have hpl : ∀ k, posN (lnsB s) k ≤ s.size := fun k => by
    have := posN_le (lnsB s) k
    rw [lns_flat, L_len] at this
    exact this
  have hml : (lnV 0 (lnsB s)).length ≤ 1048577 := by
    rw [lnV_len]
    have := lnF_len s s.size 0 0
    show (lnF s s.size 0 0).length ≤ _
    omega
  have hp0 : posN (lnsB s) 0 = 0 := rfl
  generalize lnV 0 (lnsB s) = M at *
  generalize posN (lnsB s) = P at *
  have HLN := Lib.hid hLN
  have HPS := Lib.hid hps
  have HPL := Lib.hid hpl
  have HPA := Lib.hid hpa
  have HJB := Lib.hid hjb
  have HP0 := Lib.hid hp0
  have hsz : s.size ≤ 2000 := by omega
  clear hr hbad hjb hLN hpa hps hs hpl hp0
  go_enter Tryz.func8, Tryz.ntmps8
  go_wp2_with fail
  refine HK.out.mono ?_
  rintro e1 w1 ⟨v1, rfl, ⟨b1, hbb1, hown1⟩, hb1⟩
  dsimp only at hown1
  obtain ⟨A1, cap1, rfl, hat1⟩ := own_lns hown1
  have HA1 := Lib.hid hat1
  have HB1 := Lib.hid hb1
  clear hb1 HK hat1 hown1 hbb1
  go_wp2_with fail
  go_loopw [6, 7, 8, 9, 10] (fun av iv _ _ _ wr => ∃ k : Nat, av = .int .i64 (P k : Int) ∧ iv = .int .i64 (k : Int) ∧ k ≤ M.length ∧ Hid (Below w1.heap.size w1 wr)) (fun _ iv _ _ _ _ => M.length - (intOf iv).toNat)
  case atStart => exact ⟨0, by rw [HP0.out]; rfl, rfl, Nat.zero_le _, Below.refl _ _⟩
  case round =>
    obtain ⟨k, rfl, rfl, hk, HBW⟩ := hrel
    have hk0 : (0 : Int) ≤ (k : Int) := by omega
    by_cases hlt : k < M.length
    case neg =>
      obtain rfl : k = M.length := by omega
      have HJ := Lib.hid (fun w' (hb : Below w1.heap.size w1 w') => JoinI_any M A1 cap1 w' hml (fun i hi => by
        obtain ⟨g, hA, hg, a0, a1, a2, a3, a4⟩ := HA1.out i hi
        exact ⟨g, hA, Nat.lt_of_lt_of_le hg hb.size, (hb.cell (p := ⟨g, i * 5, none⟩) hg).trans a0, (hb.cell (p := ⟨g, i * 5 + 1, none⟩) hg).trans a1, (hb.cell (p := ⟨g, i * 5 + 2, none⟩) hg).trans a2, (hb.cell (p := ⟨g, i * 5 + 3, none⟩) hg).trans a3, (hb.cell (p := ⟨g, i * 5 + 4, none⟩) hg).trans a4⟩) (by rw [HJB.out, L_len]; omega))
      have hjs : (⟨(joinL M).toArray⟩ : ByteArray) = s := by rw [HJB.out, mk_L]
      rw [hjs] at HJ
      have q1 : (s.toList == s.toList) = true := beq_true rfl
      have q2 : ((P M.length : Int) == (s.size : Int)) = true := by rw [beq_iff_eq, HPA.out]
      clear hjs
      go_wp2_with fail
      refine (HJ.out _ HBW.out).mono ?_
      rintro e w2 ⟨rfl, hb2⟩
      have HB2 := Lib.hid (HB1.out.trans ((HBW.out.trans (hb2.mono HBW.out.size)).mono HB1.out.size))
      clear hb2 HJ
      go_wp2_with (go_at_call 11; refine (awake21_any _ (HE.out.below HB2.out)).mono ?_; rintro e w3 ⟨rfl, hb3⟩)
      go_ret
      exact ⟨rfl, HB2.out.trans (hb3.mono HB2.out.size)⟩
    obtain ⟨g, rfl, hg, a0, a1, a2, a3, a4⟩ := HA1.out k hlt
    have c0 := (HBW.out.cell (p := ⟨g, k * 5, none⟩) hg).trans a0
    have c1 := (HBW.out.cell (p := ⟨g, k * 5 + 1, none⟩) hg).trans a1
    have c2 := (HBW.out.cell (p := ⟨g, k * 5 + 2, none⟩) hg).trans a2
    have c3 := (HBW.out.cell (p := ⟨g, k * 5 + 3, none⟩) hg).trans a3
    have c4 := (HBW.out.cell (p := ⟨g, k * 5 + 4, none⟩) hg).trans a4
    obtain ⟨hpo, hok⟩ := HLN.out k hlt
    have HPK := Lib.hid (HPS.out k hlt)
    have HPK1 := Lib.hid (HPL.out (k + 1))
    generalize M[k] = x at *
    obtain ⟨ind, text, com, fin, pos⟩ := x
    have HOK := Lib.hid hok
    dsimp only at c0 c1 c2 c3 c4 hpo
    subst hpo
    clear a0 a1 a2 a3 a4 hg hok
    obtain ⟨tb, htb⟩ : ∃ tb : ByteArray, (⟨text.toArray⟩ : ByteArray) = tb := ⟨_, rfl⟩
    obtain ⟨cb, hcb⟩ : ∃ cb : ByteArray, (⟨com.toArray⟩ : ByteArray) = cb := ⟨_, rfl⟩
    obtain ⟨fb, hfb⟩ : ∃ fb : ByteArray, (⟨fin.toArray⟩ : ByteArray) = fb := ⟨_, rfl⟩
    rw [htb] at c1
    rw [hcb] at c2
    rw [hfb] at c3
    have HTB := Lib.hid htb
    have HCB := Lib.hid hcb
    have HFB := Lib.hid hfb
    have htz : tb.size = text.length := by rw [← htb, ← L_len, L_mk]
    have hcz : cb.size = com.length := by rw [← hcb, ← L_len, L_mk]
    have hfz : fb.size = fin.length := by rw [← hfb, ← L_len, L_mk]
    have HSZ : Hid (ind + tb.size + (cb.size + fb.size) = P (k + 1) - P k) := by unfold Hid; rw [htz, hcz, hfz]; exact HOK.out.sz
    have htm : tb.size ≤ 2000 := by have := HSZ.out; have := HPK1.out; omega
    have hcm : cb.size ≤ 2000 := by have := HSZ.out; have := HPK1.out; omega
    have hfm : fb.size ≤ 2000 := by have := HSZ.out; have := HPK1.out; omega
    have him : ind ≤ 2000 := by have := HSZ.out; have := HPK1.out; omega
    have hPm : P k ≤ 2000 := by have := HPL.out k; omega
    clear htb hcb hfb htz hfz
    have HCZ := Lib.hid hcz
    clear hcz
    go_upto_region 11 with fail
    generalize hW1 : World.alloc wr _ = w2
    obtain ⟨ha1, -, hz1, hb1⟩ := alloc_of hW1
    have HX : Hid (w2.heap[wr.heap.size]? = some (.cells [.int .i64 (ind : Int), .string tb, .string cb, .string fb, .int .i64 (P k : Int)].toArray 30 (0, 0))) := ha1
    have HBW2 := Lib.hid (HBW.out.trans (hb1.mono HBW.out.size))
    clear hW1 ha1 hz1 hb1 c0 c1 c2 c3 c4 HBW
    obtain ⟨z0, z1, z2, z3, z4⟩ := row5 HX.out
    go_upto_region 12 with fail
    go_cut [90] (fun v wx => v = .bool false ∧ w2 = wx)
    case first =>
      have hok := HOK.out
      have g0 : ¬ (ind : Int) < 0 := by omega
      have gp : ((P k : Int) != (P k : Int)) = false := by rw [bne_eq_false_iff_eq]
      have hfi := hok.fi
      have HFI : Hid (fb = ⟨#[10]⟩ ∨ fb = ⟨#[13, 10]⟩ ∨ (fb = ⟨#[]⟩ ∧ ¬ k + 1 < M.length)) := by
        rw [← HFB.out]
        rcases hfi with h | h | ⟨h, h2⟩
        · have h' : fin = [10] := h
          exact .inl (by rw [h'])
        · have h' : fin = [13, 10] := h
          exact .inr (.inl (by rw [h']))
        · have h' : fin = [] := h
          exact .inr (.inr ⟨by rw [h'], of_decide_eq_true h2⟩)
      have HHD : Hid (∀ hp : 0 < tb.size, tb[0].toNat ≠ 32) := by
        intro hp h
        have hd := hok.hd
        have e0 := HTB.out
        subst e0
        exact mk_ne hd hp (UInt8.toNat_inj.1 h)
      have HLA : Hid (∀ hq : tb.size - 1 < tb.size, tb[tb.size - 1].toNat ≠ 32) := by
        intro hq h
        have hl := hok.la
        have e0 := HTB.out
        subst e0
        exact last_ne hl hq (UInt8.toNat_inj.1 h)
      clear hok hfi HOK HPK HPK1 HX
      by_cases ht : 0 < tb.size
      case neg =>
        have ht0 : tb = ⟨#[]⟩ := L_inj (List.eq_nil_of_length_eq_zero (by rw [L_len]; omega))
        clear HHD HLA
        subst ht0
        rcases HFI.out with h | h | ⟨h, hl⟩
        · subst h
          clear ht HFI
          go_wp2_with fail
          go_meet
          exact ⟨rfl, rfl⟩
        · subst h
          clear ht HFI
          go_wp2_with fail
          go_meet
          exact ⟨rfl, rfl⟩
        · subst h
          have gl : ((k : Int) + 1 < (M.length : Int)) = False := eq_false (by omega)
          clear ht HFI hl
          go_wp2_with fail
          go_meet
          exact ⟨rfl, rfl⟩
      have gt : ((0 : Int) < (tb.size : Int)) = True := eq_true (by omega)
      have hkp : 1 ≤ (tb.size : Int) := by omega
      have hkl : (tb.size : Int) - 1 < (tb.size : Int) := by omega
      have hq : tb.size - 1 < tb.size := by omega
      have ga := beqNB tb[0] 32 (by have := HHD.out ht; omega)
      have gb := beqNB tb[tb.size - 1] 32 (by have := HLA.out hq; omega)
      rcases HFI.out with h | h | ⟨h, hl⟩
      · subst h
        clear HHD HLA HFI
        go_wp2_with fail
        go_meet
        exact ⟨rfl, rfl⟩
      · subst h
        clear HHD HLA HFI
        go_wp2_with fail
        go_meet
        exact ⟨rfl, rfl⟩
      · subst h
        have gl : ((k : Int) + 1 < (M.length : Int)) = False := eq_false (by omega)
        clear HHD HLA HFI hl
        go_wp2_with fail
        go_meet
        exact ⟨rfl, rfl⟩
    case rest =>
    obtain ⟨hv, rfl⟩ := hcut
    subst hv
    have hco := HOK.out.co
    obtain ⟨h, hh1, hh2, hh3⟩ := hco
    have HH2 : Hid (∀ j (hj : j < cb.size), j < h → cb[j].toNat = 32) := by
      intro j hj hjh
      have e1 := hh2 j hjh
      have e0 := HCB.out
      subst e0
      have e2 : (⟨com.toArray⟩ : ByteArray)[j] = 32 := by
        have hj' : j < com.length := by rw [← L_len, L_mk] at hj; exact hj
        rw [List.getElem?_eq_getElem hj'] at e1
        exact Option.some.inj e1
      rw [e2]
      rfl
    have HH3 : Hid (∀ (hj : h < cb.size), cb[h].toNat = 35) := by
      intro hj
      have e1 := hh3 (by have h9 := HCZ.out; show h < com.length; omega)
      have e0 := HCB.out
      subst e0
      have e2 : (⟨com.toArray⟩ : ByteArray)[h] = 35 := by
        have hj' : h < com.length := by rw [← L_len, L_mk] at hj; exact hj
        rw [List.getElem?_eq_getElem hj'] at e1
        exact Option.some.inj e1
      rw [e2]
      rfl
    have hhc : h ≤ cb.size := by have h9 : cb.size = com.length := HCZ.out; have h8 : h ≤ com.length := hh1; omega
    clear hh1 hh2 hh3 HOK HTB HCB HFB HCZ
    go_wp2_with fail
    go_loopw [10] (fun jv wr => ∃ j : Nat, jv = .int .i64 (j : Int) ∧ j ≤ h ∧ w2 = wr) (fun jv _ => h - (intOf jv).toNat)
    case atStart => exact ⟨0, rfl, Nat.zero_le _, rfl⟩
    case round =>
      obtain ⟨j, rfl, hjh, rfl⟩ := hrel
      have hj0 : (0 : Int) ≤ (j : Int) := by omega
      by_cases hlt2 : j < h
      · have hjc : j < cb.size := by omega
        have e1 := HH2.out j hjc hlt2
        have q1 := bneNB cb[j] 35 (by omega)
        have q2 := bneB cb[j] 32 (by omega)
        clear e1
        go_wp2_with fail
        exact ⟨⟨j + 1, by go_num, by omega, trivial⟩, by simp [intOf]; omega⟩
      · obtain rfl : j = h := by omega
        have HEND : Hid ((P k : Int) + ((ind : Int) + (tb.size : Int) + (cb.size : Int) + (fb.size : Int)) = (P (k + 1) : Int)) := by
          have h1 := HSZ.out
          have h2 := HPK.out
          unfold Hid
          omega
        by_cases hjc : j < cb.size
        · have e1 := HH3.out hjc
          have q1 := bneB cb[j] 35 (by omega)
          clear e1
          go_wp2_with fail
          exact ⟨⟨k + 1, by rw [← HEND.out]; try go_num, by go_num, by omega, HBW2.out⟩, by simp [intOf]; omega⟩
        · have q0 : ((j : Int) < (cb.size : Int)) = False := eq_false (by omega)
          go_wp2_with fail
          exact ⟨⟨k + 1, by rw [← HEND.out]; try go_num, by go_num, by omega, HBW2.out⟩, by simp [intOf]; omega⟩
end Go.Proofs.YtgddhkanfcpipaaGreatDoor
