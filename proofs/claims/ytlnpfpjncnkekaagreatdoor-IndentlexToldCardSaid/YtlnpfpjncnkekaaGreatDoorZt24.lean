/- digits.reverse, digits.FromInt walked (turned from the patch seat). Conditions: at most 100 bytes; below 10^15. -/
import Derived.Test.YtlnpfpjncnkekaaGreatDoorZt22
import Derived.Test.YtlnpfpjncnkekaaGreatDoorZt15
import Derived.RegionTactic
import Derived.BigRegion
namespace Go.Proofs.YtlnpfpjncnkekaaGreatDoor
open Go.RowKit
set_option maxHeartbeats 4000000
set_option maxRecDepth 100000

/-- Block g holds the list, turned round up to i from both ends. -/
def RevAt (w wr : World) (g : Nat) (l : List UInt8) (i : Nat) : Prop :=
  Below g w wr ∧ g < wr.heap.size ∧ ∃ cur : Array Value, wr.heap[g]? = some (.cells cur 5 (0, 0)) ∧ ∀ j, j < l.length → cur[j]? = some (bv (if j < i ∨ l.length - i ≤ j then l.getD (l.length - 1 - j) 0 else l.getD j 0))
theorem RevAt.cell {w wr : World} {g i : Nat} {l : List UInt8} (h : RevAt w wr g l i) (j : Nat) (hj : j < l.length) (h1 : ¬ (j < i ∨ l.length - i ≤ j)) : wr.cell? ⟨g, j, none⟩ = some (bv (l.getD j 0)) := by
  obtain ⟨_, _, cur, hx, hc⟩ := h
  rw [cell_of_row wr g j _ _ (0, 0) hx, hc j hj, if_neg h1]
theorem RevAt.frozen {w wr : World} {g i : Nat} {l : List UInt8} (h : RevAt w wr g l i) (j : Nat) : wr.frozen? ⟨g, j, none⟩ = false := by
  obtain ⟨_, _, cur, hx, _⟩ := h
  simp [World.frozen?, hx]
theorem RevAt.swap {w wr w2 : World} {g i k : Nat} {l : List UInt8} (h : RevAt w wr g l i) (hik : i + k + 1 = l.length) (hlt : i < k) (h1 : Below g wr w2) (hs : g < w2.heap.size)
    (hx2 : ∀ cur, wr.heap[g]? = some (.cells cur 5 (0, 0)) → w2.heap[g]? = some (.cells ((cur.setIfInBounds i (bv (l.getD k 0))).setIfInBounds k (bv (l.getD i 0))) 5 (0, 0))) : RevAt w w2 g l (i + 1) := by
  obtain ⟨hb, hg, cur, hx, hc⟩ := h
  refine ⟨hb.trans h1, hs, _, hx2 cur hx, fun j hj => ?_⟩
  have hsz : ∀ j, j < l.length → j < cur.size := fun j hj => (Array.getElem?_eq_some_iff.1 (hc j hj)).1
  rw [Array.getElem?_setIfInBounds]
  by_cases hjk : k = j
  · subst hjk
    rw [if_pos rfl, if_pos (by rw [Array.size_setIfInBounds]; exact hsz k hj), if_pos (by omega), show l.length - 1 - k = i by omega]
  · rw [if_neg hjk, Array.getElem?_setIfInBounds]
    by_cases hji : i = j
    · subst hji
      rw [if_pos rfl, if_pos (hsz i hj), if_pos (by omega), show l.length - 1 - i = k by omega]
    · rw [if_neg hji, hc j hj]
      by_cases hc1 : j < i ∨ l.length - i ≤ j
      · rw [if_pos hc1, if_pos (by omega)]
      · rw [if_neg hc1, if_neg (by omega)]
theorem reverse_any (g cap : Nat) (l : List UInt8) (w : World) (hl : l.length ≤ 100) (h1 : 1 ≤ l.length) (h0 : RevAt w w g l 0) :
    Calls Tryz.prog 151 #[.slice (some ⟨g, 0, none⟩) l.length cap] w fun e w' => (∃ v, e = .returned v) ∧ RevAt w w' g l l.length := by
  have H0 := Lib.hid h0
  clear h0
  go_enter Tryz.func151, Tryz.ntmps151
  go_wp2_with fail
  go_loopw [2, 3] (fun iv kv wr => ∃ i k : Nat, i + k + 1 = l.length ∧ i ≤ k + 1 ∧ iv = .int .i64 i ∧ kv = .int .i64 k ∧ Hid (RevAt w wr g l i)) (fun iv kv _ => (intOf kv - intOf iv + 1).toNat)
  case atStart => exact ⟨0, l.length - 1, by omega, by omega, rfl, congrArg (Value.int .i64) (by omega), H0.out⟩
  case round =>
    clear H0
    obtain ⟨i, k, hik, hle, rfl, rfl, HC⟩ := hrel
    by_cases hlt : i < k
    case neg =>
      have HF : Hid (RevAt w wr g l l.length) := by
        obtain ⟨hb, hg, cur, hx, hc⟩ := HC.out
        refine ⟨hb, hg, cur, hx, fun j hj => ?_⟩
        rw [hc j hj, if_pos (show j < l.length ∨ l.length - l.length ≤ j from .inl hj)]
        by_cases hc1 : j < i ∨ l.length - i ≤ j
        · rw [if_pos hc1]
        · rw [if_neg hc1, show l.length - 1 - j = j by omega]
      clear HC
      go_wp2_with fail
      go_end0
      exact ⟨⟨_, rfl⟩, HF.out⟩
    have c1 := HC.out.cell i (by omega) (by omega)
    have c2 := HC.out.cell k (by omega) (by omega)
    have f1 := HC.out.frozen i
    have f2 := HC.out.frozen k
    have hii : (i : Int) < l.length := by omega
    have hki : (k : Int) < l.length := by omega
    have HSW := Lib.hid (fun w2 => RevAt.swap (w2 := w2) HC.out hik hlt)
    have HG := Lib.hid HC.out.2.1
    unfold bv at c1 c2 HSW
    generalize l.getD i 0 = x at *
    generalize l.getD k 0 = y at *
    clear HC
    go_wp2_with fail
    go_region
    go_wp2_with fail
    refine ⟨⟨i + 1, k - 1, by omega, by omega, by go_num, congrArg (Value.int .i64) (by omega), HSW.out _ ?_ ?_ ?_⟩, by simp [intOf]; omega⟩
    · exact (((Below.refl _ wr).setCell (p := ⟨g, i, none⟩) (Nat.le_refl _) _).setCell (p := ⟨g, k, none⟩) (Nat.le_refl _) _).drew
    · have := HG.out; simpa using this
    · exact fun cur hx => heap_setCell_same _ g k _ _ _ (heap_setCell_same wr g i _ _ _ hx)

theorem digQ_step (n : Nat) (h : 0 < n) (acc : List UInt8) : acc ++ digQ n = (acc ++ [UInt8.ofNat (48 + n % 10)]) ++ digQ (n / 10) := by
  rw [digQ_pos n h, List.append_assoc]
  rfl
theorem reverse_nil (a : Option Addr) (cap : Nat) (w : World) :
    Calls Tryz.prog 151 #[.slice a 0 cap] w fun e w' => (∃ v, e = .returned v) ∧ w = w' := by
  go_enter Tryz.func151, Tryz.ntmps151
  go_wp2_with fail
  refine wp_loop_rounds 1 ?_
  rw [rounds_succ]
  go_wp2_with fail
  go_end0
  exact ⟨⟨_, rfl⟩, rfl⟩
theorem RevAt.rdb {w w' : World} {g cap : Nat} {l : List UInt8} (h : RevAt w w' g l l.length) (hc : l.length ≤ cap) (hm : cap ≤ maxLen) (hl : l.length ≤ 100) : RdB w' (.slice (some ⟨g, 0, none⟩) l.length cap) l.reverse := by
  obtain ⟨_, hg, cur, hx, hcu⟩ := h
  refine ⟨_, cap, by rw [List.length_reverse], by rw [List.length_reverse]; exact hc, ⟨by rw [List.length_reverse]; omega, hm⟩, (fun h => by cases h), fun _ => ⟨g, 0, rfl, hg, fun i hi j hj => ?_⟩⟩
  rw [List.length_reverse] at hi
  obtain rfl : j = 0 := by omega
  rw [Nat.zero_add, Nat.mul_one, Nat.add_zero, cell_of_row w' g i _ _ (0, 0) hx, hcu i hi, if_pos (.inl hi)]
  simp only [List.getElem?_cons_zero]
  rw [List.getD_eq_getElem?_getD, List.getD_eq_getElem?_getD, List.getElem?_reverse hi]
theorem dFromInt_any (n0 : Nat) (w : World) (hn0 : n0 < 1000000000000000) :
    Calls Tryz.prog 97 #[.int .i64 n0] w fun e w' => e = .returned (.string ⟨(numL n0).toArray⟩) ∧ Below w.heap.size w w' := by
  have HL := Lib.hid (digQ_len 15 n0 hn0)
  go_enter Tryz.func97, Tryz.ntmps97
  go_wp2_with fail
  go_loopw [0, 3] (fun nv bv' wr => ∃ (n : Nat) (acc : List UInt8), n ≤ n0 ∧ nv = .int .i64 n ∧ Hid (digQ n0 = acc ++ digQ n) ∧ Hid (wr.ownsRow w.heap.size 5 1 bv' acc.length (acc.map bv)) ∧ Below w.heap.size w wr) (fun nv _ _ => (intOf nv).toNat)
  case atStart => exact ⟨n0, [], Nat.le_refl _, rfl, rfl, World.ownsRow_nil _ _ _ _, Below.refl _ _⟩
  case round =>
    obtain ⟨n, acc, hn, rfl, HC, HO, hbw⟩ := hrel
    have hal : acc.length ≤ 15 := by have h1 := HL.out; rw [HC.out, List.length_append] at h1; omega
    rcases Nat.eq_zero_or_pos n with rfl | hp
    · have HD : Hid (digQ n0 = acc) := by unfold Hid; rw [HC.out, digQ_zero, List.append_nil]
      clear HC
      by_cases hz : acc.length = 0
      · have hacc : acc = [] := List.length_eq_zero_iff.1 hz
        have HE : Hid ((⟨#[]⟩ : ByteArray) = ⟨(numL n0).toArray⟩) := by unfold Hid numL; rw [HD.out, hacc]; rfl
        obtain ⟨a, cap, rfl, hcv⟩ : ∃ a cap, u3 = .slice a 0 cap ∧ (convert 26 9 (.slice a 0 cap)).run Tryz.prog wr = .ok (.string ⟨#[]⟩) wr := by
          have ho := HO.out
          rw [hacc] at ho
          have hr := conv_rdb (RdB.of_own (l := []) ho rfl (Nat.zero_le _))
          rcases ho.2 with ⟨h, _⟩ | ⟨g, cap, cur, h, _⟩
          · exact ⟨none, 0, h, by rw [← h]; exact hr⟩
          · exact ⟨_, cap, h, by have h' := h; simp only [List.length_nil] at h'; rw [← h']; exact hr⟩
        clear HO hz hacc HD
        go_wp2_with fail
        refine (reverse_nil _ _ _).mono ?_
        rintro e w' ⟨⟨v, rfl⟩, rfl⟩
        go_wp2_with fail
        go_ret
        exact ⟨by rw [← HE.out]; rfl, hbw⟩
      · rcases HO.out.2 with ⟨_, h⟩ | ⟨g, cap, cur, hbv, hgb, hh, hnc, hcm, _⟩
        · exact absurd h hz
        subst hbv
        have hst : RevAt wr wr g acc 0 := ⟨Below.refl _ _, (Array.getElem?_eq_some_iff.1 hh).1, cur, hh, fun j hj => by
          have h1 := World.ownsRow.cellAt HO.out j (by rw [Nat.mul_one]; exact hj)
          rw [cell_of_row wr g j _ _ (0, 0) hh] at h1
          rw [h1, if_neg (by omega), List.getElem?_map, List.getElem?_eq_getElem hj, List.getD_eq_getElem?_getD, List.getElem?_eq_getElem hj]
          rfl⟩
        have HREV := Lib.hid (reverse_any g cap acc wr (by omega) (by omega) hst)
        have HN2 : Hid ((⟨acc.reverse.toArray⟩ : ByteArray) = ⟨(numL n0).toArray⟩) := by unfold Hid numL; rw [HD.out]
        have HCM := Lib.hid hcm
        have HGB := Lib.hid hgb
        clear HO hst hh HD hcm hgb hz
        go_wp2_with fail
        refine HREV.out.mono ?_
        rintro e w2 ⟨⟨v, rfl⟩, hrv⟩
        have hcv := conv_rdb (hrv.rdb hnc HCM.out (by omega))
        have HB2 := Lib.hid (hbw.trans (hrv.1.mono HGB.out))
        clear hrv
        go_wp2_with fail
        go_ret
        exact ⟨by rw [← HN2.out]; rfl, HB2.out⟩
    · have HN := Lib.hid (HC.out.trans (digQ_step n hp acc))
      have hpi : (0 : Int) < n := by omega
      have hmod : ((n : Int) % 10) = ((n % 10 : Nat) : Int) := by omega
      obtain ⟨d, hd⟩ : ∃ d, d = n % 10 := ⟨_, rfl⟩
      rw [← hd] at hmod HN
      have hd10 : d < 10 := by omega
      have hnb : n < 1000000000000000 := by omega
      obtain ⟨c, hc⟩ : ∃ c, c = UInt8.ofNat (48 + d) := ⟨_, rfl⟩
      have hu : c.toNat = 48 + d := by rw [hc]; simp; omega
      rw [← hc] at HN
      have HUS : Hid ([Value.int .u8 (48 + (d : Int))] = [c].map bv) := by unfold Hid; show [_] = [bv c]; unfold bv; rw [hu]; rfl
      clear hc hd HC hp hu
      have hown := HO.out
      have HBW := Lib.hid hbw
      clear hbw HO
      go_wp2_with (at_builtin; refine wp_pushM bytesT rfl _ _ rfl hown [c] [.int .u8 (48 + (d : Int))] HUS.out 1 rfl rfl _ rfl rfl (by omega) HBW.out.size ?_; intro v' w2 hown2 hg2 hb2; have HO2 := Lib.hid hown2; have HB2 := Lib.hid (HBW.out.trans hb2); clear hown hown2 hg2 hb2)
      exact ⟨⟨n / 10, acc ++ [c], by omega, by go_num, HN.out, by unfold Hid; rw [List.length_append]; exact HO2.out, HB2.out⟩, by simp [intOf]; omega⟩
end Go.Proofs.YtlnpfpjncnkekaaGreatDoor
