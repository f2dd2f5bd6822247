/- The law IndentlexLines walked. Conditions: the tables of unicode/utf8 as they are, a value of internal/bytealg.MaxLen. -/
import Derived.Test.YtgddhkanfcpipaaGreatDoorZk20
import Derived.Test.YtgddhkanfcpipaaGreatDoorZk12
namespace Go.Proofs.YtgddhkanfcpipaaGreatDoor
open Go.RowKit
set_option maxHeartbeats 2000000
set_option maxRecDepth 100000

theorem own_lns {w : World} {base : Nat} {v : Value} {M : List Ln} (h : w.ownsRow base 30 5 v M.length (M.flatMap lnC)) :
    ∃ A cap, v = .slice A M.length cap ∧ ∀ i (hi : i < M.length), ∃ g, A = some ⟨g, 0, none⟩ ∧ g < w.heap.size ∧ (w.cell? ⟨g, i * 5, none⟩ = some (.int .i64 (M[i].ind : Int)) ∧ w.cell? ⟨g, i * 5 + 1, none⟩ = some (.string ⟨M[i].text.toArray⟩) ∧ w.cell? ⟨g, i * 5 + 2, none⟩ = some (.string ⟨M[i].com.toArray⟩) ∧ w.cell? ⟨g, i * 5 + 3, none⟩ = some (.string ⟨M[i].fin.toArray⟩) ∧ w.cell? ⟨g, i * 5 + 4, none⟩ = some (.int .i64 (M[i].pos : Int))) := by
  rcases h.2 with ⟨rfl, h0⟩ | ⟨g, cap, cur, rfl, hb, hg, -⟩
  · exact ⟨none, 0, by rw [h0], fun i hi => by omega⟩
  · refine ⟨_, _, rfl, fun i hi => ⟨g, rfl, (Array.getElem?_eq_some_iff.1 hg).1, ?_, ?_, ?_, ?_, ?_⟩⟩
    · rw [World.ownsRow.cellAt h (i * 5) (by omega)]
      exact flat_get lnC 5 lnC_len M i hi 0 (by decide)
    · rw [World.ownsRow.cellAt h (i * 5 + 1) (by omega)]
      exact flat_get lnC 5 lnC_len M i hi 1 (by decide)
    · rw [World.ownsRow.cellAt h (i * 5 + 2) (by omega)]
      exact flat_get lnC 5 lnC_len M i hi 2 (by decide)
    · rw [World.ownsRow.cellAt h (i * 5 + 3) (by omega)]
      exact flat_get lnC 5 lnC_len M i hi 3 (by decide)
    · rw [World.ownsRow.cellAt h (i * 5 + 4) (by omega)]
      exact flat_get lnC 5 lnC_len M i hi 4 (by decide)
theorem LinesL_any (s : ByteArray) (w : World) (hE : EnvI w) :
    Calls Tryz.prog 3 #[.string s] w fun e w' => e = .returned (.bool true) ∧ Below w.heap.size w w' := by
  have HE := Lib.hid hE
  clear hE
  by_cases hs : 2000 < s.size
  · have h1 : (2000 : Int) < s.size := by omega
    go_enter Tryz.func3, Tryz.ntmps3
    go_wp2_with (go_at_call 11; refine (awake21_any _ HE.out).mono ?_; rintro e w1 ⟨rfl, hb1⟩)
    go_ret
    exact ⟨rfl, hb1⟩
  have h1 : ¬ (2000 : Int) < s.size := by omega
  have HK := Lib.hid (ILines_any s w (by omega) HE.out.tab)
  have HR := Lib.hid (fun w' => RLines_any s w' (by omega))
  have hml : (linesR s).1.length ≤ 1048577 := by
    unfold linesR
    split
    · exact Nat.zero_le _
    split
    · exact Nat.zero_le _
    · have h2 : ∀ (pos : Nat) (bs : List ByteArray), (lnV pos bs).length = bs.length := by
        intro pos bs
        induction bs generalizing pos with
        | nil => rfl
        | cons b t ih => rw [lnV, List.length_cons, List.length_cons, ih]
      show (lnV 0 (lnsB s)).length ≤ _
      rw [h2]
      have := lnF_len s s.size 0 0
      show (lnF s s.size 0 0).length ≤ _
      omega
  generalize linesR s = x at *
  obtain ⟨M, n, e⟩ := x
  dsimp only at hml
  have q2 : ((n : Int) != (n : Int)) = false := by rw [bne_eq_false_iff_eq]
  have q3 : ((e : Int) != (e : Int)) = false := by rw [bne_eq_false_iff_eq]
  have q4 : ((M.length : Int) != (M.length : Int)) = false := by rw [bne_eq_false_iff_eq]
  clear hs
  go_enter Tryz.func3, Tryz.ntmps3
  go_wp2_with fail
  refine HK.out.mono ?_
  rintro e1 w1 ⟨v1, rfl, ⟨b1, hbb1, hown1⟩, hb1⟩
  dsimp only at hown1
  obtain ⟨A1, cap1, rfl, hat1⟩ := own_lns hown1
  have HA1 := Lib.hid hat1
  have HB1 := Lib.hid hb1
  clear hb1 HK hat1 hown1 hbb1
  go_wp2_with fail
  refine (HR.out _).mono ?_
  rintro e1 w2 ⟨v2, rfl, ⟨b2, hbb2, hown2⟩, hb2⟩
  dsimp only at hown2
  obtain ⟨A2, cap2, rfl, hat2⟩ := own_lns hown2
  have HA2 := Lib.hid hat2
  have HB2 := Lib.hid (HB1.out.trans (hb2.mono HB1.out.size))
  have HC2 := Lib.hid hb2
  clear hb2 HR HB1 hat2 hown2 hbb2
  go_wp2_with fail
  go_loopw [9] (fun iv wr => ∃ k m : Nat, iv = .int .i64 (k : Int) ∧ k ≤ M.length ∧ wr = w2.drewN m) (fun iv _ => M.length - (intOf iv).toNat)
  case atStart => exact ⟨0, 0, rfl, Nat.zero_le _, rfl⟩
  case round =>
    obtain ⟨k, m, rfl, hk, rfl⟩ := hrel
    have hk0 : (0 : Int) ≤ (k : Int) := by omega
    by_cases hlt : k < M.length
    case neg =>
      have hbm : Below w.heap.size w (w2.drewN m) := ⟨HB2.out.os, HB2.out.tape, HB2.out.output, HB2.out.size, HB2.out.block⟩
      have HBM := Lib.hid hbm
      clear hbm
      go_wp2_with (go_at_call 11; refine (awake21_any _ (HE.out.below HBM.out)).mono ?_; rintro e w3 ⟨rfl, hb3⟩)
      go_ret
      exact ⟨rfl, HBM.out.trans (hb3.mono HBM.out.size)⟩
    obtain ⟨g1, rfl, hg1, a0, a1, a2, a3, a4⟩ := HA1.out k hlt
    obtain ⟨g2, rfl, hg2, d0, d1, d2, d3, d4⟩ := HA2.out k hlt
    have c0 := (HC2.out.cell (p := ⟨g1, k * 5, none⟩) hg1).trans a0
    have c1 := (HC2.out.cell (p := ⟨g1, k * 5 + 1, none⟩) hg1).trans a1
    have c2 := (HC2.out.cell (p := ⟨g1, k * 5 + 2, none⟩) hg1).trans a2
    have c3 := (HC2.out.cell (p := ⟨g1, k * 5 + 3, none⟩) hg1).trans a3
    have c4 := (HC2.out.cell (p := ⟨g1, k * 5 + 4, none⟩) hg1).trans a4
    have hq : ∀ w', (Op.equalIn 10000 30 (.agg #[.int .i64 (M[k].ind : Int), .string ⟨M[k].text.toArray⟩, .string ⟨M[k].com.toArray⟩, .string ⟨M[k].fin.toArray⟩, .int .i64 (M[k].pos : Int)]) (.agg #[.int .i64 (M[k].ind : Int), .string ⟨M[k].text.toArray⟩, .string ⟨M[k].com.toArray⟩, .string ⟨M[k].fin.toArray⟩, .int .i64 (M[k].pos : Int)])).run Tryz.prog w' = .ok true w' := fun w' => by rw [eqIn_line, decide_eq_true ⟨rfl, rfl, rfl, rfl, rfl⟩]
    generalize M[k].ind = t0 at *
    generalize (⟨M[k].text.toArray⟩ : ByteArray) = t1 at *
    generalize (⟨M[k].com.toArray⟩ : ByteArray) = t2 at *
    generalize (⟨M[k].fin.toArray⟩ : ByteArray) = t3 at *
    generalize M[k].pos = t4 at *
    clear a0 a1 a2 a3 a4 hg1 hg2
    go_wp2_with fail
    go_quiet (fail)
    go_wp2_with fail
    exact ⟨⟨k + 1, _, by go_num, by omega, rfl⟩, by simp [intOf]; omega⟩
end Go.Proofs.YtgddhkanfcpipaaGreatDoor
