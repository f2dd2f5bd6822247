/- base.finder, base.Decode walked. Conditions: strings of at most 10^9 bytes. -/
import Derived.Test.YtlnpfpjncnkekaaGreatDoorZt8
import Derived.Deep.DeepCutAuto
import Derived.Deep.CutBlock
import Derived.Test.YtlnpfpjncnkekaaGreatDoorZt5
import Derived.Test.YtlnpfpjncnkekaaGreatDoorZt3
import Derived.Test.YtlnpfpjncnkekaaGreatDoorZt4
namespace Go.Proofs.YtlnpfpjncnkekaaGreatDoor
open Go.RowKit
set_option maxHeartbeats 1000000
set_option maxRecDepth 100000

theorem beqB (b : UInt8) (n : Int) (h : (b.toNat : Int) = n) : ((b.toNat : Int) == n) = true := by rw [beq_iff_eq]; exact h
theorem beqNB (b : UInt8) (n : Int) (h : ¬ (b.toNat : Int) = n) : ((b.toNat : Int) == n) = false := by rw [beq_eq_false_iff_ne]; exact h
theorem bneB (b : UInt8) (n : Int) (h : (b.toNat : Int) = n) : ((b.toNat : Int) != n) = false := by rw [bne_eq_false_iff_eq]; exact h
theorem bneNB (b : UInt8) (n : Int) (h : ¬ (b.toNat : Int) = n) : ((b.toNat : Int) != n) = true := by rw [bne_iff_ne]; exact h
end Go.Proofs.YtlnpfpjncnkekaaGreatDoor

namespace Go.Proofs.YtlnpfpjncnkekaaGreatDoor
open Go.RowKit
set_option maxHeartbeats 1000000
set_option maxRecDepth 100000

end Go.Proofs.YtlnpfpjncnkekaaGreatDoor

namespace Go.Proofs.YtlnpfpjncnkekaaGreatDoor
open Go.RowKit
set_option maxHeartbeats 1000000
set_option maxRecDepth 100000

/-! A token without an error takes bytes that are there. -/
theorem comF_le (block : Bool) : ∀ (f : Nat) (l : List UInt8), (comF block f l).1 ≤ l.length
  | 0, l => by unfold comF; split <;> exact Nat.zero_le _
  | f + 1, [] => by unfold comF; split <;> exact Nat.zero_le _
  | f + 1, b :: t => by
    unfold comF
    split
    · exact Nat.zero_le _
    split
    · rename_i h
      have h2 : (b :: t).take 2 = [42, 47] := by simpa [pre] using h.2
      have := congrArg List.length h2
      rw [List.length_take] at this
      simp only [List.length_cons, List.length_nil] at this ⊢
      omega
    split
    · exact Nat.zero_le _
    split
    · exact Nat.zero_le _
    · have h1 := dec_le (b :: t)
      have h2 := comF_le block f ((b :: t).drop (dec (b :: t)).2)
      rw [List.length_drop] at h2
      show (dec (b :: t)).2 + _ ≤ _
      omega
theorem comL_le (l : List UInt8) : (comL l).1 ≤ l.length := by
  rcases l with _ | ⟨a, _ | ⟨c, t⟩⟩
  · exact Nat.zero_le _
  · exact Nat.zero_le _
  · have h1 := comF_le false t.length t
    have h2 := comF_le true t.length t
    simp only [comL, List.length_cons]
    repeat' split
    all_goals simp only []
    all_goals omega
theorem spaceLen_le : ∀ l : List UInt8, spaceLen l ≤ l.length
  | [] => Nat.le_refl _
  | b :: t => by
    have := spaceLen_le t
    unfold spaceLen
    split <;> simp <;> omega
theorem wordL_le (l : List UInt8) : (wordL l).1 ≤ l.length := by
  unfold wordL
  repeat' split
  · exact wordLen_le l
  · exact Nat.zero_le _
  · exact Nat.zero_le _
theorem lineL_le (l : List UInt8) : (lineL l).1 ≤ l.length := by
  rcases l with _ | ⟨a, _ | ⟨c, t⟩⟩ <;> simp only [lineL]
  · exact Nat.le_refl _
  · split <;> simp
  · repeat' split
    all_goals simp
theorem tok_le {k n m : Nat} {x : Nat × Nat} (h : x.1 ≤ m) (_hn : n = x.1) : (tok k x).2.1 ≤ m := by
  unfold tok
  split
  · exact Nat.zero_le _
  · exact h
theorem oneL_le (l : List UInt8) : (oneL l).2.1 ≤ l.length := by
  rcases l with _ | ⟨c, t⟩
  · exact Nat.zero_le _
  have hq := quotF_le t.length t
  have hq2 := quotF_le (t.drop 1).length (t.drop 1)
  simp only [oneL]
  split
  · exact spaceLen_le _
  split
  · exact tok_le (lineL_le _) rfl
  split
  · exact tok_le (comL_le _) rfl
  split
  · simp
  split
  · refine tok_le ?_ rfl
    show 1 + (quotF t.length t).2.1 ≤ _
    rw [List.length_cons]; omega
  split
  · rename_i hp
    refine tok_le ?_ rfl
    show 2 + (quotF (t.drop 1).length (t.drop 1)).2.1 ≤ _
    have h2 : t.take 1 = [34] := by simpa [pre] using hp.2
    have := congrArg List.length h2
    rw [List.length_take] at this
    rw [List.length_drop] at hq2
    simp only [List.length_cons, List.length_nil, List.length_drop] at this ⊢
    omega
  split
  · exact tok_le (wordL_le _) rfl
  · exact Nat.zero_le _
/-! Next: the token at an offset. -/
theorem cell_of_alloc (w : World) (cs : Array Value) (t : TypeId) (i : Nat) : (w.alloc (.cells cs t)).cell? ⟨w.heap.size, i, none⟩ = cs[i]? := cell_of_row (w.alloc (.cells cs t)) w.heap.size i cs t (0, 0) (heap_alloc_new w _)
/-- What Next hands back at an offset that is there: kind, text, offset, error. -/
def nextV (s : ByteArray) (k : Nat) : Value × Nat :=
  if (oneL ((L s).drop k)).2.2 ≠ 0 then (.agg #[.int .i64 0, .string ⟨#[]⟩, .int .i64 0], (oneL ((L s).drop k)).2.2)
  else (.agg #[.int .i64 (oneL ((L s).drop k)).1, .string (s.extract k (k + (oneL ((L s).drop k)).2.1)), .int .i64 k], 0)
theorem Next_any (s : ByteArray) (k : Nat) (w : World) (hk : k < s.size) (hs : s.size ≤ 100000000000) :
    Calls Tryz.prog 38 #[.string s, .int .i64 k] w fun e w' => e = .returned (.tuple #[(nextV s k).1, .int .i64 (nextV s k).2]) ∧ Below w.heap.size w w' := by
  have h0 : ¬ (k : Int) < 0 := by omega
  have h1 : ¬ (s.size : Int) < k := by omega
  have h2 : ((k : Int) == s.size) = false := by rw [beq_eq_false_iff_ne]; omega
  have hz1 : 0 < (s.extract k s.size).size := by rw [ext_size]; omega
  have hz2 : (s.extract k s.size).size ≤ 100000000000 := by rw [ext_size]; omega
  go_enter Tryz.func38, Tryz.ntmps38
  have hnew : ∀ i, (w.alloc (.cells #[.int .i64 0, .string ⟨#[]⟩, .int .i64 0] 73)).cell? ⟨w.heap.size, i, none⟩ = #[Value.int .i64 0, .string ⟨#[]⟩, .int .i64 0][i]? := cell_of_alloc w _ _
  have hfr : ∀ i, (w.alloc (.cells #[.int .i64 0, .string ⟨#[]⟩, .int .i64 0] 73)).frozen? ⟨w.heap.size, i, none⟩ = false := fun i => World.frozen?_alloc_at _ _ _ _ rfl
  have HNW := Lib.hid hnew; clear hnew
  have HFR := Lib.hid hfr; clear hfr
  go_wp2_with fail
  refine (one_any _ _ hz1 hz2).mono ?_
  rintro e w1 ⟨⟨r, n, rfl, hrn⟩, hb1⟩
  have HN := Lib.hid hrn; clear hrn
  have hc0 : w1.cell? ⟨w.heap.size, 0, none⟩ = some (.int .i64 0) := by rw [hb1.cell (p := ⟨w.heap.size, 0, none⟩) (by simp)]; exact HNW.out 0
  have hc1 : w1.cell? ⟨w.heap.size, 1, none⟩ = some (.string ⟨#[]⟩) := by rw [hb1.cell (p := ⟨w.heap.size, 1, none⟩) (by simp)]; exact HNW.out 1
  have hc2 : w1.cell? ⟨w.heap.size, 2, none⟩ = some (.int .i64 0) := by rw [hb1.cell (p := ⟨w.heap.size, 2, none⟩) (by simp)]; exact HNW.out 2
  have hf0 : w1.frozen? ⟨w.heap.size, 0, none⟩ = false := by rw [hb1.frozen (p := ⟨w.heap.size, 0, none⟩) (by simp)]; exact HFR.out 0
  have hf1 : w1.frozen? ⟨w.heap.size, 1, none⟩ = false := by rw [hb1.frozen (p := ⟨w.heap.size, 1, none⟩) (by simp)]; exact HFR.out 1
  have hf2 : w1.frozen? ⟨w.heap.size, 2, none⟩ = false := by rw [hb1.frozen (p := ⟨w.heap.size, 2, none⟩) (by simp)]; exact HFR.out 2
  have hbw : Below w.heap.size w w1 := ((Below.refl _ _).alloc (Nat.le_refl _) _).trans (hb1.mono (by simp))
  clear hb1 HNW HFR
  by_cases hz : (oneL (L (s.extract k s.size))).2.2 = 0
  case neg =>
    have e1 : (((oneL (L (s.extract k s.size))).2.2 : Int) != 0) = true := by rw [bne_iff_ne]; omega
    have HF : Hid (nextV s k = (.agg #[.int .i64 0, .string ⟨#[]⟩, .int .i64 0], (oneL (L (s.extract k s.size))).2.2)) := by unfold Hid nextV; rw [L_from] at hz ⊢; rw [if_pos hz]
    clear hz HN
    go_wp2_with fail
    exact bodyPost_ret (v := .tuple #[.agg #[.int .i64 0, .string ⟨#[]⟩, .int .i64 0], .int .i64 (oneL (L (s.extract k s.size))).2.2]) (by simp [results, Tryz.results38, go_sem, hc0, hc1, hc2]) rfl ⟨by rw [HF.out]; try rfl, ((hbw.setCell (Nat.le_refl _) _).setCell (Nat.le_refl _) _).setCell (Nat.le_refl _) _⟩
  have e1 : (((oneL (L (s.extract k s.size))).2.2 : Int) != 0) = false := by rw [bne_eq_false_iff_eq]; omega
  obtain ⟨hr, hn⟩ := HN.out hz
  have hle := oneL_le (L (s.extract k s.size))
  rw [← hn, L_len, ext_size] at hle
  have HF : Hid (nextV s k = (.agg #[.int .i64 r, .string (s.extract k (k + n)), .int .i64 k], 0)) := by
    unfold Hid nextV
    rw [hr, hn]
    rw [L_from] at hz ⊢
    rw [if_neg (by simpa using hz)]
  clear hr hn HN hz
  go_wp2_with fail
  exact bodyPost_ret (v := .tuple #[.agg #[.int .i64 r, .string (s.extract k (k + n)), .int .i64 k], .int .i64 0]) (by simp [results, Tryz.results38, go_sem, hc0, hc1, hc2]) rfl ⟨by rw [HF.out]; try rfl, ((hbw.setCell (Nat.le_refl _) _).setCell (Nat.le_refl _) _).setCell (Nat.le_refl _) _⟩
end Go.Proofs.YtlnpfpjncnkekaaGreatDoor

namespace Go.Proofs.YtlnpfpjncnkekaaGreatDoor
open Go.RowKit
set_option maxHeartbeats 1000000
set_option maxRecDepth 100000

end Go.Proofs.YtlnpfpjncnkekaaGreatDoor

namespace Go.Proofs.YtlnpfpjncnkekaaGreatDoor
open Go.RowKit
set_option maxHeartbeats 1000000
set_option maxRecDepth 100000

/-- A token's cells. -/
def tk (x : Nat × ByteArray × Nat) : List Value := [.int .i64 x.1, .string x.2.1, .int .i64 x.2.2]
end Go.Proofs.YtlnpfpjncnkekaaGreatDoor

namespace Go.Proofs.YtlnpfpjncnkekaaGreatDoor
open Go.RowKit
set_option maxHeartbeats 1000000
set_option maxRecDepth 100000

end Go.Proofs.YtlnpfpjncnkekaaGreatDoor

namespace Go.Proofs.YtlnpfpjncnkekaaGreatDoor
open Go.RowKit
set_option maxHeartbeats 1000000
set_option maxRecDepth 100000

end Go.Proofs.YtlnpfpjncnkekaaGreatDoor

namespace Go.Proofs.YtlnpfpjncnkekaaGreatDoor
open Go.RowKit
set_option maxHeartbeats 4000000
set_option maxRecDepth 100000

abbrev letB : ByteArray := ⟨#[65, 66, 67, 68, 69, 70, 71, 72, 73, 74, 75, 76, 77, 78, 79, 80, 81, 82, 83, 84, 85, 86, 87, 88, 89, 90, 97, 98, 99, 100, 101, 102, 103, 104, 105, 106, 107, 108, 109, 110, 111, 112, 113, 114, 115, 116, 117, 118, 119, 120, 121, 122, 48, 49, 50, 51, 52, 53, 54, 55, 56, 57, 43, 47]⟩
/-- The position, from k on, as a loop finds it. -/
theorem idxL_at (s : ByteArray) (c : UInt8) (k : Nat) (h : k < s.size) : idxL c k ((L s).drop k) = if s[k].toNat = c.toNat then (k : Int) else idxL c (k + 1) ((L s).drop (k + 1)) := by
  rw [L_drop s k h]
  rfl
theorem idxL_end (s : ByteArray) (c : UInt8) (k : Nat) (h : ¬ k < s.size) : idxL c k ((L s).drop k) = -1 := by
  rw [L_drop_nil s k (by omega)]
  rfl
theorem finder_any (a : ByteArray) (w : World) :
    Calls Tryz.prog 76 #[.string a] w fun e w' => e = .returned (.func (.func 127) #[] #[.pointer (some ⟨w.heap.size, 0, none⟩)]) ∧ w'.cell? ⟨w.heap.size, 0, none⟩ = some (.string a) ∧ w.heap.size < w'.heap.size ∧ Below w.heap.size w w' := by
  go_enter Tryz.func76, Tryz.ntmps76
  go_wp2_with fail
  go_ret
  refine ⟨rfl, ?_, ?_, ?_⟩
  · simp
  · simp
  · exact (Below.refl _ _).alloc (Nat.le_refl _) _
theorem pos_any (c : UInt8) (g : Nat) (w : World) (hc : w.cell? ⟨g, 0, none⟩ = some (.string letB)) :
    Calls Tryz.prog 127 #[.int .u8 (c.toNat : Int), .pointer (some ⟨g, 0, none⟩)] w fun e w' => e = .returned (.int .i64 (b64 c)) ∧ w = w' := by
  have hm : letB.size ≤ maxLen := by decide
  have hs : letB.size ≤ 1000 := by decide
  obtain ⟨r, hr⟩ : ∃ r, r = b64 c := ⟨_, rfl⟩
  rw [← hr]
  have HR0 : Hid (r = idxL c 0 ((L letB).drop 0)) := hr
  clear hr
  generalize hB : letB = s at *
  clear hB
  go_enter Tryz.func127, Tryz.ntmps127
  go_wp2_with fail
  go_loopw [4, 7] (fun _ iv wr => ∃ k : Nat, iv = .int .i64 (k : Int) ∧ k ≤ s.size ∧ Hid (r = idxL c k ((L s).drop k)) ∧ w = wr) (fun _ iv _ => s.size - (intOf iv).toNat)
  case atStart => exact ⟨0, rfl, Nat.zero_le _, HR0.out, rfl⟩
  case round =>
    clear HR0
    obtain ⟨k, rfl, hks, HR, rfl⟩ := hrel
    have hk0 : (0 : Int) ≤ (k : Int) := by omega
    by_cases hlt : k < s.size
    case neg =>
      have hr : r = -1 := by rw [HR.out]; exact idxL_end s c k hlt
      subst hr
      clear HR
      go_wp2_with fail
      go_ret
      exact ⟨rfl, rfl⟩
    have hst := HR.out
    rw [idxL_at s c k hlt] at hst
    clear HR
    by_cases hb : s[k].toNat = c.toNat
    · rw [if_pos hb] at hst
      subst hst
      have g1 : ((s[k].toNat : Int) == (c.toNat : Int)) = true := by rw [beq_iff_eq]; omega
      clear hb
      go_wp2_with fail
      go_ret
      exact ⟨rfl, rfl⟩
    · rw [if_neg hb] at hst
      have HN := Lib.hid hst
      have g1 : ((s[k].toNat : Int) == (c.toNat : Int)) = false := by rw [beq_eq_false_iff_ne]; omega
      clear hst hb
      go_wp2_with fail
      exact ⟨⟨k + 1, by go_num, by omega, HN.out, trivial⟩, by simp [intOf]; omega⟩
end Go.Proofs.YtlnpfpjncnkekaaGreatDoor
