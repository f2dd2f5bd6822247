/- The package bracelex, walked: Next. Conditions: strings of at most 10^11 bytes. -/
import Derived.Test.YtmafggfonapmpaaDoorBl9
namespace Go.Proofs.YtmafggfonapmpaaDoor
open Go.RowKit
set_option maxHeartbeats 1000000
set_option maxRecDepth 100000

/-! A token without an error takes bytes that are there. -/
theorem comF_le (block : Bool) : ∀ (f : Nat) (l : List UInt8), (comF block f l).1 ≤ l.length
  | 0, l => by unfold comF; split <;> exact Nat.zero_le _
  | f + 1, [] => by unfold comF; split <;> exact Nat.zero_le _
  | f + 1, b :: t => by
    unfold comF
    split
    · exact Nat.zero_le _
    split
    · rename_i h
      have h2 : (b :: t).take 2 = [42, 47] := by simpa [pre] using h.2
      have := congrArg List.length h2
      rw [List.length_take] at this
      simp only [List.length_cons, List.length_nil] at this ⊢
      omega
    split
    · exact Nat.zero_le _
    split
    · exact Nat.zero_le _
    · have h1 := dec_le (b :: t)
      have h2 := comF_le block f ((b :: t).drop (dec (b :: t)).2)
      rw [List.length_drop] at h2
      show (dec (b :: t)).2 + _ ≤ _
      omega
theorem comL_le (l : List UInt8) : (comL l).1 ≤ l.length := by
  rcases l with _ | ⟨a, _ | ⟨c, t⟩⟩
  · exact Nat.zero_le _
  · exact Nat.zero_le _
  · have h1 := comF_le false t.length t
    have h2 := comF_le true t.length t
    simp only [comL, List.length_cons]
    repeat' split
    all_goals simp only []
    all_goals omega
theorem spaceLen_le : ∀ l : List UInt8, spaceLen l ≤ l.length
  | [] => Nat.le_refl _
  | b :: t => by
    have := spaceLen_le t
    unfold spaceLen
    split <;> simp <;> omega
theorem wordL_le (l : List UInt8) : (wordL l).1 ≤ l.length := by
  unfold wordL
  repeat' split
  · exact wordLen_le l
  · exact Nat.zero_le _
  · exact Nat.zero_le _
theorem lineL_le (l : List UInt8) : (lineL l).1 ≤ l.length := by
  rcases l with _ | ⟨a, _ | ⟨c, t⟩⟩ <;> simp only [lineL]
  · exact Nat.le_refl _
  · split <;> simp
  · repeat' split
    all_goals simp
theorem tok_le {k n m : Nat} {x : Nat × Nat} (h : x.1 ≤ m) (_hn : n = x.1) : (tok k x).2.1 ≤ m := by
  unfold tok
  split
  · exact Nat.zero_le _
  · exact h
theorem oneL_le (l : List UInt8) : (oneL l).2.1 ≤ l.length := by
  rcases l with _ | ⟨c, t⟩
  · exact Nat.zero_le _
  have hq := quotF_le t.length t
  have hq2 := quotF_le (t.drop 1).length (t.drop 1)
  simp only [oneL]
  split
  · exact spaceLen_le _
  split
  · exact tok_le (lineL_le _) rfl
  split
  · exact tok_le (comL_le _) rfl
  split
  · simp
  split
  · refine tok_le ?_ rfl
    show 1 + (quotF t.length t).2.1 ≤ _
    rw [List.length_cons]; omega
  split
  · rename_i hp
    refine tok_le ?_ rfl
    show 2 + (quotF (t.drop 1).length (t.drop 1)).2.1 ≤ _
    have h2 : t.take 1 = [34] := by simpa [pre] using hp.2
    have := congrArg List.length h2
    rw [List.length_take] at this
    rw [List.length_drop] at hq2
    simp only [List.length_cons, List.length_nil, List.length_drop] at this ⊢
    omega
  split
  · exact tok_le (wordL_le _) rfl
  · exact Nat.zero_le _
/-! Next: the token at an offset. -/
theorem cell_of_alloc (w : World) (cs : Array Value) (t : TypeId) (i : Nat) : (w.alloc (.cells cs t)).cell? ⟨w.heap.size, i, none⟩ = cs[i]? := cell_of_row (w.alloc (.cells cs t)) w.heap.size i cs t (0, 0) (heap_alloc_new w _)
/-- What Next hands back at an offset that is there: kind, text, offset, error. -/
def nextV (s : ByteArray) (k : Nat) : Value × Nat :=
  if (oneL ((L s).drop k)).2.2 ≠ 0 then (.agg #[.int .i64 0, .string ⟨#[]⟩, .int .i64 0], (oneL ((L s).drop k)).2.2)
  else (.agg #[.int .i64 (oneL ((L s).drop k)).1, .string (s.extract k (k + (oneL ((L s).drop k)).2.1)), .int .i64 k], 0)
theorem Next_any (s : ByteArray) (k : Nat) (w : World) (hk : k < s.size) (hs : s.size ≤ 100000000000) :
    Calls Tryd.prog 9 #[.string s, .int .i64 k] w fun e w' => e = .returned (.tuple #[(nextV s k).1, .int .i64 (nextV s k).2]) ∧ Below w.heap.size w w' := by
  have h0 : ¬ (k : Int) < 0 := by omega
  have h1 : ¬ (s.size : Int) < k := by omega
  have h2 : ((k : Int) == s.size) = false := by rw [beq_eq_false_iff_ne]; omega
  have hz1 : 0 < (s.extract k s.size).size := by rw [ext_size]; omega
  have hz2 : (s.extract k s.size).size ≤ 100000000000 := by rw [ext_size]; omega
  go_enter Tryd.func9, Tryd.ntmps9
  have hnew : ∀ i, (w.alloc (.cells #[.int .i64 0, .string ⟨#[]⟩, .int .i64 0] 32)).cell? ⟨w.heap.size, i, none⟩ = #[Value.int .i64 0, .string ⟨#[]⟩, .int .i64 0][i]? := cell_of_alloc w _ _
  have hfr : ∀ i, (w.alloc (.cells #[.int .i64 0, .string ⟨#[]⟩, .int .i64 0] 32)).frozen? ⟨w.heap.size, i, none⟩ = false := fun i => World.frozen?_alloc_at _ _ _ _ rfl
  have HNW := Lib.hid hnew; clear hnew
  have HFR := Lib.hid hfr; clear hfr
  go_wp2_with fail
  refine (one_any _ _ hz1 hz2).mono ?_
  rintro e w1 ⟨⟨r, n, rfl, hrn⟩, hb1⟩
  have HN := Lib.hid hrn; clear hrn
  have hc0 : w1.cell? ⟨w.heap.size, 0, none⟩ = some (.int .i64 0) := by rw [hb1.cell (p := ⟨w.heap.size, 0, none⟩) (by simp)]; exact HNW.out 0
  have hc1 : w1.cell? ⟨w.heap.size, 1, none⟩ = some (.string ⟨#[]⟩) := by rw [hb1.cell (p := ⟨w.heap.size, 1, none⟩) (by simp)]; exact HNW.out 1
  have hc2 : w1.cell? ⟨w.heap.size, 2, none⟩ = some (.int .i64 0) := by rw [hb1.cell (p := ⟨w.heap.size, 2, none⟩) (by simp)]; exact HNW.out 2
  have hf0 : w1.frozen? ⟨w.heap.size, 0, none⟩ = false := by rw [hb1.frozen (p := ⟨w.heap.size, 0, none⟩) (by simp)]; exact HFR.out 0
  have hf1 : w1.frozen? ⟨w.heap.size, 1, none⟩ = false := by rw [hb1.frozen (p := ⟨w.heap.size, 1, none⟩) (by simp)]; exact HFR.out 1
  have hf2 : w1.frozen? ⟨w.heap.size, 2, none⟩ = false := by rw [hb1.frozen (p := ⟨w.heap.size, 2, none⟩) (by simp)]; exact HFR.out 2
  have hbw : Below w.heap.size w w1 := ((Below.refl _ _).alloc (Nat.le_refl _) _).trans (hb1.mono (by simp))
  clear hb1 HNW HFR
  by_cases hz : (oneL (L (s.extract k s.size))).2.2 = 0
  case neg =>
    have e1 : (((oneL (L (s.extract k s.size))).2.2 : Int) != 0) = true := by rw [bne_iff_ne]; omega
    have HF : Hid (nextV s k = (.agg #[.int .i64 0, .string ⟨#[]⟩, .int .i64 0], (oneL (L (s.extract k s.size))).2.2)) := by unfold Hid nextV; rw [L_from] at hz ⊢; rw [if_pos hz]
    clear hz HN
    go_wp2_with fail
    exact bodyPost_ret (v := .tuple #[.agg #[.int .i64 0, .string ⟨#[]⟩, .int .i64 0], .int .i64 (oneL (L (s.extract k s.size))).2.2]) (by simp [results, Tryd.results9, go_sem, hc0, hc1, hc2]) rfl ⟨by rw [HF.out]; try rfl, ((hbw.setCell (Nat.le_refl _) _).setCell (Nat.le_refl _) _).setCell (Nat.le_refl _) _⟩
  have e1 : (((oneL (L (s.extract k s.size))).2.2 : Int) != 0) = false := by rw [bne_eq_false_iff_eq]; omega
  obtain ⟨hr, hn⟩ := HN.out hz
  have hle := oneL_le (L (s.extract k s.size))
  rw [← hn, L_len, ext_size] at hle
  have HF : Hid (nextV s k = (.agg #[.int .i64 r, .string (s.extract k (k + n)), .int .i64 k], 0)) := by
    unfold Hid nextV
    rw [hr, hn]
    rw [L_from] at hz ⊢
    rw [if_neg (by simpa using hz)]
  clear hr hn HN hz
  go_wp2_with fail
  exact bodyPost_ret (v := .tuple #[.agg #[.int .i64 r, .string (s.extract k (k + n)), .int .i64 k], .int .i64 0]) (by simp [results, Tryd.results9, go_sem, hc0, hc1, hc2]) rfl ⟨by rw [HF.out]; try rfl, ((hbw.setCell (Nat.le_refl _) _).setCell (Nat.le_refl _) _).setCell (Nat.le_refl _) _⟩
end Go.Proofs.YtmafggfonapmpaaDoor
