/- The law PatchInverts walked. Conditions: strings of at most 10^9 bytes. -/
import Derived.Test.YthdninnjjmhpfaaCp
import Derived.Test.YthdninnjjmhpfaaTq
namespace Go.Proofs.Ythdninnjjmhpfaa
open Go.RowKit
set_option maxHeartbeats 4000000
set_option maxRecDepth 100000

theorem InvertsL_any (v : Value) (xs : List Ch) (w : World) (hv : RdL w v xs) :
    Calls Try.prog 3 #[v] w fun e w' => e = .returned (.bool true) ∧ Below w.heap.size w w' := by
  have HV := Lib.hid hv
  have HFEW := Lib.hid (few_any v xs w hv)
  cases hfb : fewB xs with
  | false =>
    rw [hfb] at HFEW
    clear hfb hv
    go_enter Try.func3, Try.ntmps3
    go_wp2_with fail
    refine HFEW.out.mono ?_
    rintro e w1 ⟨rfl, hb1⟩
    go_wp2_with fail
    go_ret
    exact ⟨rfl, hb1⟩
  | true =>
  rw [hfb] at HFEW
  have HFB := Lib.hid hfb
  have HF := Lib.hid (fewB_is hfb).2
  have HN := Lib.hid (fewB_is hfb).1
  obtain ⟨cc, ⟨a, cap, rfl, h1, ⟨h2, _⟩, h3, h4⟩, hc⟩ := hv
  have HA := Lib.hid h4
  have HC := Lib.hid hc
  clear h4 h3 hc hfb
  go_enter Try.func3, Try.ntmps3
  go_wp2_with fail
  refine HFEW.out.mono ?_
  rintro e w1 ⟨rfl, hb1⟩
  clear HFEW
  go_wp2_with fail
  go_loopw [3] (fun iv wr => ∃ k : Nat, k ≤ xs.length ∧ iv = .int .i64 k ∧ Below w.heap.size w wr) (fun iv _ => xs.length - (intOf iv).toNat)
  case atStart => exact ⟨0, Nat.zero_le _, rfl, hb1⟩
  case round =>
    clear hb1
    obtain ⟨k, hk, rfl, hbw⟩ := hrel
    by_cases hlt : k < xs.length
    case neg =>
      go_wp2_with fail
      refine (PInvert_any _ xs wr HFB.out (HV.out.below hbw)).mono ?_
      rintro e w2 ⟨v2, rfl, hr2, hb2⟩
      have hbw2 := hbw.trans (hb2.mono hbw.size)
      go_wp2_with fail
      refine (RInvert_any _ xs w2 (by have := HN.out; omega) (HV.out.below hbw2)).mono ?_
      rintro e w3 ⟨v3, rfl, hr3, hb3⟩
      have hbw3 := hbw2.trans (hb3.mono hbw2.size)
      go_wp2_with fail
      refine (Same55_any v2 v3 (invL xs) w3 (hr2.below hb3) hr3).mono ?_
      rintro e w4 ⟨rfl, hb4⟩
      have hbw4 := hbw3.trans (hb4.mono hbw3.size)
      go_wp2_with fail
      go_ret
      exact ⟨rfl, hbw4⟩
    obtain ⟨g, o, rfl, hg, hat⟩ := HA.out (by omega)
    have hrd := HC.out k hlt
    obtain ⟨hs1, hs2, hs3, hs4, hs5⟩ := fewOne_is (HF.out k hlt)
    obtain ⟨_, _, _, hbo, hbn⟩ := cells29 (w := w) (g := g) (o := o + k * 29) (c := cc k) (fun j hj => hat k hlt j hj)
    have HO := Lib.hid (fun w' (hb : Below w.heap.size w w') => Check7_any xs[k].o (cc k).o w' (by omega) (hrd.o.stays hb))
    have HNN := Lib.hid (fun w' (hb : Below w.heap.size w w') => Check7_any xs[k].n (cc k).n w' (by omega) (hrd.n.stays hb))
    have HBO := Lib.hid (fun j hj => (hbw.cell hg).trans (hbo j hj))
    have HBN := Lib.hid hbn
    clear hat hrd hs1 hs2 hs3 hs4 hs5 hbo hbn
    generalize checkV xs[k].o = qo at *
    generalize checkV xs[k].n = qn at *
    generalize cc k = c at *
    go_wp2_with (refine wpl_load rfl rfl stV rfl (cells_len _) HBO.out ?_)
    refine (HO.out _ hbw).mono ?_
    rintro e w2 ⟨rfl, hb⟩
    have hbw2 := hbw.trans (hb.mono hbw.size)
    have HBN2 := Lib.hid (fun j hj => (hbw2.cell hg).trans (HBN.out j hj))
    clear hb hbw HO HBO HBN
    by_cases h0 : qo = 0
    case neg =>
      have hq : ((qo : Int) != 0) = true := by rw [bne_iff_ne]; omega
      clear h0
      go_wp2_with fail
      go_ret
      exact ⟨rfl, hbw2⟩
    subst h0
    go_wp2_with (refine wpl_loadG rfl stV rfl rfl (cells_len _) HBN2.out ?_)
    refine (HNN.out _ hbw2).mono ?_
    rintro e w3 ⟨rfl, hb⟩
    have hbw3 := hbw2.trans (hb.mono hbw2.size)
    clear hb hbw2 HNN HBN2
    by_cases h0 : qn = 0
    case neg =>
      have hq : ((qn : Int) != 0) = true := by rw [bne_iff_ne]; omega
      clear h0
      go_wp2_with fail
      go_ret
      exact ⟨rfl, hbw3⟩
    subst h0
    go_wp2_with fail
    exact ⟨⟨k + 1, by omega, rfl, hbw3⟩, by simp [intOf]; omega⟩
end Go.Proofs.Ythdninnjjmhpfaa
