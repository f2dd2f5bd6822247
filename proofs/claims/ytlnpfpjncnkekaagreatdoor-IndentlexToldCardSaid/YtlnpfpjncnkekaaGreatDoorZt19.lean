/- datakitref04: Leap, Month, length, before, Day walked. Conditions: years of at most 9999, months and days of at most 99999. -/
import Derived.Test.YtlnpfpjncnkekaaGreatDoorZt16
import Derived.Test.YtlnpfpjncnkekaaGreatDoorZt12
import Derived.Test.YtlnpfpjncnkekaaGreatDoorZt9
import Derived.Deep.QuietTactic
import Derived.BigQuiet
namespace Go.Proofs.YtlnpfpjncnkekaaGreatDoor
open Go.RowKit
set_option maxHeartbeats 2000000
set_option maxRecDepth 100000

/-- A call that writes one block alone. -/
structure Only (g : Nat) (w w' : World) : Prop where
  b : ∀ B, B ≤ g → Below B w w'
  o : ∀ j, j ≠ g → w'.heap[j]? = w.heap[j]?
  z : w'.heap.size = w.heap.size
theorem Only.refl (g : Nat) (w : World) : Only g w w := ⟨fun B _ => Below.refl B w, fun _ _ => rfl, rfl⟩
theorem Only.trans {g : Nat} {w w1 w2 : World} (h1 : Only g w w1) (h2 : Only g w1 w2) : Only g w w2 :=
  ⟨fun B hB => (h1.b B hB).trans (h2.b B hB), fun j hj => (h2.o j hj).trans (h1.o j hj), h2.z.trans h1.z⟩
theorem drew_of (w : World) (B : Nat) : Below B w w.drew := ⟨rfl, rfl, rfl, Nat.le_refl _, fun _ _ => rfl⟩
theorem Only.drew (g : Nat) (w : World) : Only g w w.drew := ⟨fun B _ => drew_of w B, fun _ _ => rfl, rfl⟩
theorem Only.of_row {g : Nat} {w w2 : World} {row cur : Array Value} {t : TypeId} (hW : w.setRow g row = w2) (hg : w.heap[g]? = some (.cells cur t (0, 0))) : Only g w w2 := by
  obtain ⟨-, h2, h3, h4⟩ := setRow_of hW hg
  exact ⟨h4, h2, h3⟩
abbrev rdC (x : ByteArray × Bool) : List Value := [.string x.1, .bool x.2]
/-- The reader's block. -/
def RdA (w : World) (g : Nat) (x : ByteArray × Bool) : Prop := w.heap[g]? = some (.cells (rdC x).toArray 98 (0, 0))
theorem RdA.cells {w : World} {g : Nat} {s : ByteArray} {b : Bool} (h : RdA w g (s, b)) : w.cell? ⟨g, 0, none⟩ = some (.string s) ∧ w.cell? ⟨g, 1, none⟩ = some (.bool b) :=
  ⟨(cell_of_row w g _ _ _ (0, 0) h).trans rfl, (cell_of_row w g _ _ _ (0, 0) h).trans rfl⟩
theorem moS : (Tryz.prog.info? 9).map (·.size) = some 1 := by kernel_rfl
theorem moB : (Tryz.prog.info? 4).map (·.size) = some 1 := by kernel_rfl
theorem moI : (Tryz.prog.info? 3).map (·.size) = some 1 := by kernel_rfl
theorem moU : (Tryz.prog.info? 5).map (·.size) = some 1 := by kernel_rfl
theorem one_cell {v : Value} (h : v.oneCell' = true) : ∀ u ∈ [v], u.oneCell' = true := by
  intro u hu
  rw [List.mem_singleton.1 hu]
  exact h
/-- So many digits. -/
def numOK (k : Nat) (s : ByteArray) : Bool := decide (k ≤ s.size) && ((L s).take k).all dig
def numS (k : Nat) (x : ByteArray × Bool) : Nat × ByteArray × Bool :=
  if numOK k x.1 then (valL 0 ((L x.1).take k), x.1.extract k x.1.size, x.2) else (0, x.1, true)
def NumPost (g : Nat) (w : World) (y : Nat × ByteArray × Bool) (e : Ending) (w' : World) : Prop := e = .returned (.int .i64 (y.1 : Nat)) ∧ RdA w' g y.2 ∧ Only g w w'
theorem val9 (s : ByteArray) (i : Nat) (hi : i ≤ 9) (h : ((L s).take i).all dig = true) : valL 0 ((L s).take i) < 1000000000 := by
  have h1 := valL_lt ((L s).take i) 0 (fun b hb => List.all_eq_true.1 h b hb)
  have h2 : ((L s).take i).length ≤ 9 := by rw [List.length_take]; omega
  have h3 : (10 : Nat) ^ ((L s).take i).length ≤ 10 ^ 9 := Nat.pow_le_pow_right (by decide) h2
  have h4 : (10 : Nat) ^ 9 = 1000000000 := by decide
  omega
theorem number_any (g k : Nat) (s : ByteArray) (b : Bool) (w : World) (hs : s.size ≤ 1000000000) (hk9 : k ≤ 9) (hg : RdA w g (s, b)) :
    Calls Tryz.prog 161 #[.pointer (some ⟨g, 0, none⟩), .int .i64 k] w (NumPost g w (numS k (s, b))) := by
  have hm : s.size ≤ maxLen := by simp only [maxLen]; omega
  obtain ⟨c0, c1⟩ := hg.cells
  have HG : Hid (w.heap[g]? = some (.cells [.string s, .bool b].toArray 98 (0, 0))) := hg
  clear hg
  obtain ⟨y, hy⟩ : ∃ y, y = numS k (s, b) := ⟨_, rfl⟩
  rw [← hy]
  by_cases hks : s.size < k
  case pos =>
    have HF : Hid (y = (0, s, true)) := by
      unfold Hid
      rw [hy]
      unfold numS numOK
      dsimp only
      rw [if_neg]
      rw [decide_eq_false (by omega)]
      simp
    have gk : (s.size : Int) < (k : Int) := by omega
    clear hy hks
    go_enter Tryz.func161, Tryz.ntmps161
    go_wp2_with (refine wpl_store rfl rfl moB rfl rfl (cs := [.bool true]) rfl rfl (one_cell rfl) HG.out (Nat.le_of_ble_eq_true rfl) (row := [.string s, .bool true]) rfl ?_; generalize hW : World.setRow _ _ _ = w2; have HO := Lib.hid (Only.of_row hW HG.out); have HG2 := Lib.hid (setRow_of hW HG.out).1; clear hW)
    go_ret
    exact ⟨by rw [HF.out]; rfl, by rw [HF.out]; exact HG2.out, HO.out⟩
  have gk : ¬ (s.size : Int) < (k : Int) := by omega
  have hyy : y = if ((L s).take k).all dig = true then (valL 0 ((L s).take k), s.extract k s.size, b) else (0, s, true) := by
    rw [hy]
    unfold numS numOK
    dsimp only
    rw [decide_eq_true (by omega), Bool.true_and]
  have HY := Lib.hid hyy
  clear hy hyy
  go_enter Tryz.func161, Tryz.ntmps161
  go_wp2_with fail
  go_loopw [5, 6, 18] (fun nv _ iv wr => ∃ i : Nat, iv = .int .i64 (i : Int) ∧ i ≤ k ∧ nv = .int .i64 (valL 0 ((L s).take i) : Nat) ∧ Hid (((L s).take i).all dig = true) ∧ w = wr) (fun _ _ iv _ => k - (intOf iv).toNat)
  case atStart => exact ⟨0, rfl, Nat.zero_le _, rfl, by unfold Hid; rfl, rfl⟩
  case round =>
    obtain ⟨i, rfl, hik, rfl, HA, rfl⟩ := hrel
    have hi0 : (0 : Int) ≤ (i : Int) := by omega
    have HV := Lib.hid (val9 s i (by omega) HA.out)
    by_cases hlt : i < k
    case neg =>
      obtain rfl : i = k := by omega
      have HF : Hid (y = (valL 0 ((L s).take i), s.extract i s.size, b)) := by unfold Hid; rw [HY.out, if_pos HA.out]
      clear HY HA HV
      go_wp2_with (refine wpl_store rfl rfl moS rfl rfl (cs := [.string (s.extract i s.size)]) rfl rfl (one_cell rfl) HG.out (Nat.le_of_ble_eq_true rfl) (row := [.string (s.extract i s.size), .bool b]) rfl ?_; generalize hW : World.setRow _ _ _ = w2; have HO := Lib.hid (Only.of_row hW HG.out); have HG2 := Lib.hid (setRow_of hW HG.out).1; clear hW)
      go_ret
      exact ⟨by rw [HF.out]; rfl, by rw [HF.out]; exact HG2.out, HO.out⟩
    have his : i < s.size := by omega
    have hts : (L s).take (i + 1) = (L s).take i ++ [s[i]] := take_succ_L s i his
    by_cases hd : 48 ≤ s[i].toNat ∧ s[i].toNat ≤ 57
    case neg =>
      have HF : Hid (y = (0, s, true)) := by
        unfold Hid
        rw [HY.out, if_neg]
        intro h
        have h1 := List.all_eq_true.1 h s[i] (by
          have : s[i] ∈ (L s).take (i + 1) := by rw [hts]; simp
          exact (List.take_subset_take_left _ (by omega)) this)
        unfold dig at h1
        exact hd (of_decide_eq_true h1)
      by_cases h48 : s[i].toNat < 48
      · have g1 : (s[i].toNat : Int) < 48 := by omega
        clear HY HA HV hts hd h48
        go_wp2_with (refine wpl_store rfl rfl moB rfl rfl (cs := [.bool true]) rfl rfl (one_cell rfl) HG.out (Nat.le_of_ble_eq_true rfl) (row := [.string s, .bool true]) rfl ?_; generalize hW : World.setRow _ _ _ = w2; have HO := Lib.hid (Only.of_row hW HG.out); have HG2 := Lib.hid (setRow_of hW HG.out).1; clear hW)
        go_ret
        exact ⟨by rw [HF.out]; rfl, by rw [HF.out]; exact HG2.out, HO.out⟩
      · have g1 : ¬ (s[i].toNat : Int) < 48 := by omega
        have g2 : (57 : Int) < (s[i].toNat : Int) := by omega
        clear HY HA HV hts hd h48
        go_wp2_with (refine wpl_store rfl rfl moB rfl rfl (cs := [.bool true]) rfl rfl (one_cell rfl) HG.out (Nat.le_of_ble_eq_true rfl) (row := [.string s, .bool true]) rfl ?_; generalize hW : World.setRow _ _ _ = w2; have HO := Lib.hid (Only.of_row hW HG.out); have HG2 := Lib.hid (setRow_of hW HG.out).1; clear hW)
        go_ret
        exact ⟨by rw [HF.out]; rfl, by rw [HF.out]; exact HG2.out, HO.out⟩
    have HN : Hid (valL 0 ((L s).take (i + 1)) = 10 * valL 0 ((L s).take i) + (s[i].toNat - 48)) := by unfold Hid; rw [hts, valL_snoc]
    have HA2 : Hid (((L s).take (i + 1)).all dig = true) := by
      unfold Hid
      rw [hts, List.all_append, HA.out]
      simp [dig]
      omega
    have hbd : ((valL 0 ((L s).take i) : Nat) : Int) ≤ 1000000000 := by have := HV.out; omega
    have g1 : (48 : Int) ≤ (s[i].toNat : Int) := by omega
    have g2 : (s[i].toNat : Int) ≤ 57 := by omega
    clear HY HA HV hts hd
    generalize valL 0 ((L s).take i) = n at *
    go_wp2_with fail
    exact ⟨⟨i + 1, by go_num, by omega, congrArg (Value.int .i64) (by have := HN.out; omega), HA2.out, trivial⟩, by simp [intOf]; omega⟩
theorem drewN_heap (w : World) : ∀ n, (w.drewN n).heap = w.heap
  | 0 => rfl
  | n + 1 => by
    show ((w.drewN n).drew).heap = _
    exact drewN_heap w n
theorem drewN_below (w : World) : ∀ n B, Below B w (w.drewN n)
  | 0, B => Below.refl B w
  | n + 1, B => (drewN_below w n B).trans (drew_of _ B)
theorem Only.drewN (g : Nat) (w : World) (n : Nat) : Only g w (w.drewN n) := ⟨fun B _ => drewN_below w n B, fun j _ => by rw [drewN_heap], by rw [drewN_heap]⟩
theorem RdA.drewN {w : World} {g : Nat} {x : ByteArray × Bool} (h : RdA w g x) (n : Nat) : RdA (w.drewN n) g x := by
  unfold RdA
  rw [drewN_heap]
  exact h
/-- One of some bytes. -/
def oneS (of : ByteArray) (x : ByteArray × Bool) : Nat × ByteArray × Bool :=
  match (L x.1).head? with
  | none => (0, x.1, true)
  | some c => if (L of).contains c then (c.toNat, x.1.extract 1 x.1.size, x.2) else (0, x.1, true)
def OnePost (g : Nat) (w : World) (y : Nat × ByteArray × Bool) (e : Ending) (w' : World) : Prop := e = .returned (.int .u8 (y.1 : Nat)) ∧ RdA w' g y.2 ∧ Only g w w'
theorem one_any2 (g : Nat) (of s : ByteArray) (b : Bool) (w : World) (hs : s.size ≤ 1000000000) (ho : of.size ≤ 100) (hg : RdA w g (s, b)) :
    Calls Tryz.prog 123 #[.pointer (some ⟨g, 0, none⟩), .string of] w (OnePost g w (oneS of (s, b))) := by
  have hm : s.size ≤ maxLen := by simp only [maxLen]; omega
  have HG0 := Lib.hid hg
  obtain ⟨y, hy⟩ : ∃ y, y = oneS of (s, b) := ⟨_, rfl⟩
  rw [← hy]
  by_cases he : L s = []
  · have he1 : s.toList.isEmpty = true := by rw [empty_L]; simpa using he
    have HF : Hid (y = (0, s, true)) := by
      unfold Hid
      rw [hy]
      unfold oneS
      dsimp only
      rw [he]
      rfl
    obtain ⟨c0, c1⟩ := hg.cells
    clear hy he hg
    go_enter Tryz.func123, Tryz.ntmps123
    go_wp2_with (refine wpl_store rfl rfl moB rfl rfl (cs := [.bool true]) rfl rfl (one_cell rfl) HG0.out (Nat.le_of_ble_eq_true rfl) (row := [.string s, .bool true]) rfl ?_; generalize hW : World.setRow _ _ _ = w2; have HO := Lib.hid (Only.of_row hW HG0.out); have HG2 := Lib.hid (setRow_of hW HG0.out).1; clear hW)
    go_ret
    exact ⟨by rw [HF.out]; rfl, by rw [HF.out]; exact HG2.out, HO.out⟩
  have he1 : s.toList.isEmpty = false := by rw [empty_L]; simpa using he
  have hp := size_pos he
  have HY : Hid (y = if ((L of).drop 0).contains s[0] then (s[0].toNat, s.extract 1 s.size, b) else (0, s, true)) := by
    unfold Hid
    rw [hy]
    unfold oneS
    dsimp only
    have h := L_drop s 0 hp
    rw [List.drop_zero] at h
    rw [h, List.head?_cons, List.drop_zero]
  obtain ⟨c0, c1⟩ := hg.cells
  clear hy he hg
  go_enter Tryz.func123, Tryz.ntmps123
  go_wp2_with fail
  clear c0 c1
  go_loopw [5, 13] (fun _ iv wr => ∃ i : Nat, iv = .int .i64 (i : Int) ∧ i ≤ of.size ∧ Hid (y = if ((L of).drop i).contains s[0] then (s[0].toNat, s.extract 1 s.size, b) else (0, s, true)) ∧ Hid (RdA wr g (s, b)) ∧ Hid (Only g w wr)) (fun _ iv _ => of.size - (intOf iv).toNat)
  case atStart => exact ⟨0, rfl, Nat.zero_le _, HY.out, HG0.out, Only.refl _ _⟩
  case round =>
    clear HY HG0
    obtain ⟨i, rfl, hio, HY, HG, HO⟩ := hrel
    obtain ⟨c0, c1⟩ := HG.out.cells
    have hi0 : (0 : Int) ≤ (i : Int) := by omega
    by_cases hlt : i < of.size
    case neg =>
      have HF : Hid (y = (0, s, true)) := by
        unfold Hid
        rw [HY.out, L_drop_nil of i (by omega)]
        rfl
      clear HY
      go_wp2_with (refine wpl_store rfl rfl moB rfl rfl (cs := [.bool true]) rfl rfl (one_cell rfl) HG.out (Nat.le_of_ble_eq_true rfl) (row := [.string s, .bool true]) rfl ?_; generalize hW : World.setRow _ _ _ = w2; have HO2 := Lib.hid (HO.out.trans (Only.of_row hW HG.out)); have HG2 := Lib.hid (setRow_of hW HG.out).1; clear hW)
      go_ret
      exact ⟨by rw [HF.out]; rfl, by rw [HF.out]; exact HG2.out, HO2.out⟩
    have hst := HY.out
    rw [L_drop of i hlt, List.contains_cons] at hst
    clear HY
    by_cases hb : s[0] = of[i]
    · have gq : ((s[0].toNat : Int) == (of[i].toNat : Int)) = true := by rw [beq_iff_eq, hb]
      have HF : Hid (y = (of[i].toNat, s.extract 1 s.size, b)) := by unfold Hid; rw [hst, beq_iff_eq.2 hb, if_pos (by simp), hb]
      clear hst hb
      go_wp2_with fail
      go_quiet (fail)
      generalize hWD : World.drewN _ _ = w3
      have HG3 : Hid (RdA w3 g (s, b)) := by unfold Hid; rw [← hWD]; exact HG.out.drewN _
      have HO3 : Hid (Only g w w3) := by unfold Hid; rw [← hWD]; exact HO.out.trans (Only.drewN _ _ _)
      clear hWD c0 c1
      obtain ⟨c0, c1⟩ := HG3.out.cells
      go_wp2_with (refine wpl_store rfl rfl moS rfl rfl (cs := [.string (s.extract 1 s.size)]) rfl rfl (one_cell rfl) HG3.out (Nat.le_of_ble_eq_true rfl) (row := [.string (s.extract 1 s.size), .bool b]) rfl ?_; generalize hW : World.setRow _ _ _ = w2; have HO2 := Lib.hid (HO3.out.trans (Only.of_row hW HG3.out)); have HG2 := Lib.hid (setRow_of hW HG3.out).1; clear hW)
      go_ret
      exact ⟨by rw [HF.out]; rfl, by rw [HF.out]; exact HG2.out, HO2.out⟩
    · have gq : ((s[0].toNat : Int) == (of[i].toNat : Int)) = false := by
        rw [beq_eq_false_iff_ne]
        intro h
        exact hb (UInt8.toNat_inj.1 (by omega))
      have HN : Hid (y = if ((L of).drop (i + 1)).contains s[0] then (s[0].toNat, s.extract 1 s.size, b) else (0, s, true)) := by
        unfold Hid
        rw [hst, beq_eq_false_iff_ne.2 hb, Bool.false_or]
      clear hst hb
      go_wp2_with fail
      go_quiet (fail)
      generalize hWD : World.drewN _ _ = w3
      have HG3 : Hid (RdA w3 g (s, b)) := by unfold Hid; rw [← hWD]; exact HG.out.drewN _
      have HO3 : Hid (Only g w w3) := by unfold Hid; rw [← hWD]; exact HO.out.trans (Only.drewN _ _ _)
      clear hWD c0 c1
      go_wp2_with fail
      exact ⟨⟨i + 1, by go_num, by omega, HN.out, HG3.out, HO3.out⟩, by simp [intOf]; omega⟩
end Go.Proofs.YtlnpfpjncnkekaaGreatDoor

namespace Go.Proofs.YtlnpfpjncnkekaaGreatDoor
open Go.RowKit
set_option maxHeartbeats 2000000
set_option maxRecDepth 100000

/-- The digits behind a point, as nanoseconds. -/
def fracS (x : ByteArray × Bool) : Nat × ByteArray × Bool :=
  if runL (L x.1) < 1 ∨ 9 < runL (L x.1) then (0, x.1, true) else (valL 0 ((L x.1).take (runL (L x.1))) * 10 ^ (9 - runL (L x.1)), x.1.extract (runL (L x.1)) x.1.size, x.2)
theorem runL_at (s : ByteArray) (k : Nat) (h : k < s.size) : runL ((L s).drop k) = if dig s[k] then runL ((L s).drop (k + 1)) + 1 else 0 := by
  rw [L_drop s k h]
  rfl
theorem fraction_any (g : Nat) (s : ByteArray) (b : Bool) (w : World) (hs : s.size ≤ 1000000000) (hg : RdA w g (s, b)) :
    Calls Tryz.prog 162 #[.pointer (some ⟨g, 0, none⟩)] w (NumPost g w (fracS (s, b))) := by
  have hm : s.size ≤ maxLen := by simp only [maxLen]; omega
  have HG : Hid (w.heap[g]? = some (.cells [.string s, .bool b].toArray 98 (0, 0))) := hg
  obtain ⟨y, hy⟩ : ∃ y, y = fracS (s, b) := ⟨_, rfl⟩
  rw [← hy]
  have hrl := runL_le (L s)
  rw [L_len] at hrl
  obtain ⟨r, hr⟩ : ∃ r, r = runL (L s) := ⟨_, rfl⟩
  have HY : Hid (y = if r < 1 ∨ 9 < r then (0, s, true) else (valL 0 ((L s).take r) * 10 ^ (9 - r), s.extract r s.size, b)) := by unfold Hid; rw [hy, hr]; rfl
  have HR0 : Hid (r = 0 + runL ((L s).drop 0)) := by unfold Hid; rw [hr, List.drop_zero, Nat.zero_add]
  rw [← hr] at hrl
  obtain ⟨c0, c1⟩ := hg.cells
  clear hy hg hr
  go_enter Tryz.func162, Tryz.ntmps162
  go_wp2_with fail
  go_loopw [3, 4] (fun nv kv wr => ∃ (k n : Nat), kv = .int .i64 (k : Int) ∧ nv = .int .i64 (n : Int) ∧ k ≤ s.size ∧ Hid (r = k + runL ((L s).drop k)) ∧ Hid (((L s).take k).all dig = true) ∧ Hid (n = valL 0 ((L s).take (min k 9))) ∧ w = wr) (fun _ kv _ => s.size - (intOf kv).toNat)
  case atStart => exact ⟨0, 0, rfl, rfl, Nat.zero_le _, HR0.out, by unfold Hid; rfl, by unfold Hid; rfl, rfl⟩
  case round =>
    clear HR0
    obtain ⟨k, n, rfl, rfl, hks, HR, HA, HN, rfl⟩ := hrel
    have hk0 : (0 : Int) ≤ (k : Int) := by omega
    by_cases hgo : k < s.size ∧ dig (s.data.getD k 0) = true
    case pos =>
      obtain ⟨hlt, hdg⟩ := hgo
      have hsk : s.data.getD k 0 = s[k] := by
        rw [Array.getD_eq_getD_getElem?, Array.getElem?_eq_getElem (by exact hlt)]
        rfl
      rw [hsk] at hdg
      have hts : (L s).take (k + 1) = (L s).take k ++ [s[k]] := take_succ_L s k hlt
      have hR2 : r = (k + 1) + runL ((L s).drop (k + 1)) := by rw [HR.out, runL_at s k hlt, hdg, if_pos rfl]; omega
      have HR2 := Lib.hid hR2
      have HA2 : Hid (((L s).take (k + 1)).all dig = true) := by
        unfold Hid
        rw [hts, List.all_append, HA.out]
        simp [hdg]
      have hd2 : 48 ≤ s[k].toNat ∧ s[k].toNat ≤ 57 := of_decide_eq_true hdg
      have g1 : (48 : Int) ≤ (s[k].toNat : Int) := by omega
      have g2 : (s[k].toNat : Int) ≤ 57 := by omega
      have hv := val9 s (min k 9) (by omega) (List.all_eq_true.2 fun c hc => List.all_eq_true.1 HA.out c ((List.take_subset_take_left _ (Nat.min_le_left _ _)) hc))
      rw [← HN.out] at hv
      have hbd : (n : Int) ≤ 1000000000 := by omega
      by_cases h9 : k < 9
      · have HN2 : Hid (10 * n + (s[k].toNat - 48) = valL 0 ((L s).take (min (k + 1) 9))) := by
          unfold Hid
          rw [show min (k + 1) 9 = k + 1 by omega, hts, valL_snoc, HN.out, show min k 9 = k by omega]
        have g9 : (k : Int) < 9 := by omega
        clear HR HA HN hsk hdg hts hR2 hd2 hv h9
        go_wp2_with fail
        exact ⟨⟨k + 1, 10 * n + (s[k].toNat - 48), by go_num, congrArg (Value.int .i64) (by omega), by omega, HR2.out, HA2.out, HN2.out, trivial⟩, by simp [intOf]; omega⟩
      · have HN2 : Hid (n = valL 0 ((L s).take (min (k + 1) 9))) := by
          unfold Hid
          rw [show min (k + 1) 9 = 9 by omega, HN.out, show min k 9 = 9 by omega]
        have g9 : ¬ (k : Int) < 9 := by omega
        clear HR HA HN hsk hdg hts hR2 hd2 hv h9
        go_wp2_with fail
        exact ⟨⟨k + 1, n, by go_num, rfl, by omega, HR2.out, HA2.out, HN2.out, trivial⟩, by simp [intOf]; omega⟩
    case neg =>
      have hrk : r = k := by
        rw [HR.out]
        by_cases hlt : k < s.size
        · have hsk : s.data.getD k 0 = s[k] := by
            rw [Array.getD_eq_getD_getElem?, Array.getElem?_eq_getElem (by exact hlt)]
            rfl
          rw [runL_at s k hlt, if_neg (fun h => hgo ⟨hlt, by rw [hsk]; exact h⟩)]
          omega
        · rw [L_drop_nil s k (by omega)]
          rfl
      have hcs : k < s.size → (¬ (48 : Int) ≤ (s.data.getD k 0).toNat ∨ ¬ ((s.data.getD k 0).toNat : Int) ≤ 57) := by
        intro hlt
        by_cases h1 : (48 : Int) ≤ (s.data.getD k 0).toNat
        · right
          intro h2
          exact hgo ⟨hlt, by unfold dig; exact decide_eq_true ⟨by omega, by omega⟩⟩
        · exact .inl h1
      subst hrk
      have HNX : Hid (n = valL 0 ((L s).take (min r 9))) := HN.out
      have HNB : Hid (n < 10 ^ (min r 9)) := by
        unfold Hid
        have h1 := valL_lt ((L s).take (min r 9)) 0 (fun c hc => List.all_eq_true.1 HA.out c ((List.take_subset_take_left _ (Nat.min_le_left _ _)) hc))
        rw [Nat.zero_add, Nat.one_mul, ← HN.out] at h1
        exact Nat.lt_of_lt_of_le h1 (Nat.pow_le_pow_right (by decide) (by rw [List.length_take]; omega))
      clear HR HA HN hgo
      have HWAY : Hid ((r < 1 ∨ 9 < r) ∨ (1 ≤ r ∧ r ≤ 9)) := by unfold Hid; omega
      by_cases h1r : r < 1
      case pos =>
        have HF : Hid (y = (0, s, true)) := by unfold Hid; rw [HY.out, if_pos (.inl h1r)]
        have gr1 : (r : Int) < 1 := by omega
        clear HY h1r
        by_cases hlt : r < s.size
        case neg =>
          clear hcs
          clear HWAY HNX
          go_wp2_with (refine wpl_store rfl rfl moB rfl rfl (cs := [.bool true]) rfl rfl (one_cell rfl) HG.out (Nat.le_of_ble_eq_true rfl) (row := [.string s, .bool true]) rfl ?_; generalize hW : World.setRow _ _ _ = w2; have HO := Lib.hid (Only.of_row hW HG.out); have HG2 := Lib.hid (setRow_of hW HG.out).1; clear hW)
          go_ret
          exact ⟨by rw [HF.out]; rfl, by rw [HF.out]; exact HG2.out, HO.out⟩
        have hsk : s.data.getD r 0 = s[r] := by
          rw [Array.getD_eq_getD_getElem?, Array.getElem?_eq_getElem (by exact hlt)]
          rfl
        have h1 := hcs hlt
        rw [hsk] at h1
        by_cases h48 : (48 : Int) ≤ (s[r].toNat : Int)
        case pos =>
          have h57 : ¬ (s[r].toNat : Int) ≤ 57 := by rcases h1 with h | h; exact absurd h48 h; exact h
          clear hcs h1 hsk
          clear HWAY HNX
          go_wp2_with (refine wpl_store rfl rfl moB rfl rfl (cs := [.bool true]) rfl rfl (one_cell rfl) HG.out (Nat.le_of_ble_eq_true rfl) (row := [.string s, .bool true]) rfl ?_; generalize hW : World.setRow _ _ _ = w2; have HO := Lib.hid (Only.of_row hW HG.out); have HG2 := Lib.hid (setRow_of hW HG.out).1; clear hW)
          go_ret
          exact ⟨by rw [HF.out]; rfl, by rw [HF.out]; exact HG2.out, HO.out⟩
        case neg =>
          clear hcs h1 hsk
          clear HWAY HNX
          go_wp2_with (refine wpl_store rfl rfl moB rfl rfl (cs := [.bool true]) rfl rfl (one_cell rfl) HG.out (Nat.le_of_ble_eq_true rfl) (row := [.string s, .bool true]) rfl ?_; generalize hW : World.setRow _ _ _ = w2; have HO := Lib.hid (Only.of_row hW HG.out); have HG2 := Lib.hid (setRow_of hW HG.out).1; clear hW)
          go_ret
          exact ⟨by rw [HF.out]; rfl, by rw [HF.out]; exact HG2.out, HO.out⟩
      have gr1 : ¬ (r : Int) < 1 := by omega
      by_cases h9r : 9 < r
      case pos =>
        have HF : Hid (y = (0, s, true)) := by unfold Hid; rw [HY.out, if_pos (.inr h9r)]
        have gr9 : (9 : Int) < (r : Int) := by omega
        clear HY h1r h9r
        by_cases hlt : r < s.size
        case neg =>
          clear hcs
          clear HWAY HNX
          go_wp2_with (refine wpl_store rfl rfl moB rfl rfl (cs := [.bool true]) rfl rfl (one_cell rfl) HG.out (Nat.le_of_ble_eq_true rfl) (row := [.string s, .bool true]) rfl ?_; generalize hW : World.setRow _ _ _ = w2; have HO := Lib.hid (Only.of_row hW HG.out); have HG2 := Lib.hid (setRow_of hW HG.out).1; clear hW)
          go_ret
          exact ⟨by rw [HF.out]; rfl, by rw [HF.out]; exact HG2.out, HO.out⟩
        have hsk : s.data.getD r 0 = s[r] := by
          rw [Array.getD_eq_getD_getElem?, Array.getElem?_eq_getElem (by exact hlt)]
          rfl
        have h1 := hcs hlt
        rw [hsk] at h1
        by_cases h48 : (48 : Int) ≤ (s[r].toNat : Int)
        case pos =>
          have h57 : ¬ (s[r].toNat : Int) ≤ 57 := by rcases h1 with h | h; exact absurd h48 h; exact h
          clear hcs h1 hsk
          clear HWAY HNX
          go_wp2_with (refine wpl_store rfl rfl moB rfl rfl (cs := [.bool true]) rfl rfl (one_cell rfl) HG.out (Nat.le_of_ble_eq_true rfl) (row := [.string s, .bool true]) rfl ?_; generalize hW : World.setRow _ _ _ = w2; have HO := Lib.hid (Only.of_row hW HG.out); have HG2 := Lib.hid (setRow_of hW HG.out).1; clear hW)
          go_ret
          exact ⟨by rw [HF.out]; rfl, by rw [HF.out]; exact HG2.out, HO.out⟩
        case neg =>
          clear hcs h1 hsk
          clear HWAY HNX
          go_wp2_with (refine wpl_store rfl rfl moB rfl rfl (cs := [.bool true]) rfl rfl (one_cell rfl) HG.out (Nat.le_of_ble_eq_true rfl) (row := [.string s, .bool true]) rfl ?_; generalize hW : World.setRow _ _ _ = w2; have HO := Lib.hid (Only.of_row hW HG.out); have HG2 := Lib.hid (setRow_of hW HG.out).1; clear hW)
          go_ret
          exact ⟨by rw [HF.out]; rfl, by rw [HF.out]; exact HG2.out, HO.out⟩
      have gr9 : ¬ (9 : Int) < (r : Int) := by omega
      have HF : Hid (y = (n * 10 ^ (9 - r), s.extract r s.size, b)) := by unfold Hid; rw [HY.out, if_neg (by omega), HNX.out, show min r 9 = r by omega]
      have HV9 : Hid (n * 10 ^ (9 - r) ≤ 1000000000) := by
        unfold Hid
        have h1 := HNB.out
        rw [show min r 9 = r by omega] at h1
        refine Nat.le_trans (Nat.mul_le_mul_right _ (Nat.le_of_lt h1)) ?_
        rw [← Nat.pow_add, show r + (9 - r) = 9 by omega]
        decide
      clear HY h1r h9r HWAY HNX
      by_cases hlt : r < s.size
      case neg =>
        clear hcs
        go_wp2_with (refine wpl_store rfl rfl moS rfl rfl (cs := [.string (s.extract r s.size)]) rfl rfl (one_cell rfl) HG.out (Nat.le_of_ble_eq_true rfl) (row := [.string (s.extract r s.size), .bool b]) rfl ?_; generalize hW : World.setRow _ _ _ = w2; have HO := Lib.hid (Only.of_row hW HG.out); have HG2 := Lib.hid (setRow_of hW HG.out).1; clear hW)
        clear c0 c1
        go_loopw [3, 4] (fun nv kv wr => ∃ (j m : Nat), kv = .int .i64 (j : Int) ∧ nv = .int .i64 (m : Int) ∧ j ≤ 9 ∧ Hid (n * 10 ^ (9 - r) = m * 10 ^ (9 - j)) ∧ w2 = wr) (fun _ kv _ => 9 - (intOf kv).toNat)
        case atStart => exact ⟨r, n, rfl, rfl, by omega, by unfold Hid; rfl, rfl⟩
        case round =>
          obtain ⟨j, m, rfl, rfl, hj9, HM, rfl⟩ := hrel
          have hmb : m ≤ 1000000000 := by
            have h1 := HV9.out
            rw [HM.out] at h1
            have h2 : 0 < 10 ^ (9 - j) := Nat.pow_pos (by decide)
            exact Nat.le_trans (Nat.le_mul_of_pos_right m h2) h1
          have hbd : (m : Int) ≤ 1000000000 := by omega
          by_cases hj : j < 9
          case neg =>
            obtain rfl : j = 9 := by omega
            have HE : Hid (n * 10 ^ (9 - r) = m) := by unfold Hid; rw [HM.out]; exact Nat.mul_one m
            clear HM hmb hj
            go_wp2_with fail
            go_ret
            exact ⟨by rw [HF.out]; dsimp only; rw [HE.out]; try rfl, by rw [HF.out]; exact HG2.out, HO.out⟩
          have HN2 : Hid (n * 10 ^ (9 - r) = (m * 10) * 10 ^ (9 - (j + 1))) := by
            unfold Hid
            rw [HM.out, show 9 - j = (9 - (j + 1)) + 1 by omega, Nat.pow_succ, Nat.mul_assoc, Nat.mul_comm 10]
          have gj : (j : Int) < 9 := by omega
          clear HM hmb
          go_wp2_with fail
          exact ⟨⟨j + 1, m * 10, by go_num, by go_num, by omega, HN2.out, trivial⟩, by simp [intOf]; omega⟩
      have hsk : s.data.getD r 0 = s[r] := by
        rw [Array.getD_eq_getD_getElem?, Array.getElem?_eq_getElem (by exact hlt)]
        rfl
      have h1 := hcs hlt
      rw [hsk] at h1
      by_cases h48 : (48 : Int) ≤ (s[r].toNat : Int)
      case pos =>
        have h57 : ¬ (s[r].toNat : Int) ≤ 57 := by rcases h1 with h | h; exact absurd h48 h; exact h
        clear hcs h1 hsk
        go_wp2_with (refine wpl_store rfl rfl moS rfl rfl (cs := [.string (s.extract r s.size)]) rfl rfl (one_cell rfl) HG.out (Nat.le_of_ble_eq_true rfl) (row := [.string (s.extract r s.size), .bool b]) rfl ?_; generalize hW : World.setRow _ _ _ = w2; have HO := Lib.hid (Only.of_row hW HG.out); have HG2 := Lib.hid (setRow_of hW HG.out).1; clear hW)
        clear c0 c1
        go_loopw [3, 4] (fun nv kv wr => ∃ (j m : Nat), kv = .int .i64 (j : Int) ∧ nv = .int .i64 (m : Int) ∧ j ≤ 9 ∧ Hid (n * 10 ^ (9 - r) = m * 10 ^ (9 - j)) ∧ w2 = wr) (fun _ kv _ => 9 - (intOf kv).toNat)
        case atStart => exact ⟨r, n, rfl, rfl, by omega, by unfold Hid; rfl, rfl⟩
        case round =>
          obtain ⟨j, m, rfl, rfl, hj9, HM, rfl⟩ := hrel
          have hmb : m ≤ 1000000000 := by
            have h1 := HV9.out
            rw [HM.out] at h1
            have h2 : 0 < 10 ^ (9 - j) := Nat.pow_pos (by decide)
            exact Nat.le_trans (Nat.le_mul_of_pos_right m h2) h1
          have hbd : (m : Int) ≤ 1000000000 := by omega
          by_cases hj : j < 9
          case neg =>
            obtain rfl : j = 9 := by omega
            have HE : Hid (n * 10 ^ (9 - r) = m) := by unfold Hid; rw [HM.out]; exact Nat.mul_one m
            clear HM hmb hj
            go_wp2_with fail
            go_ret
            exact ⟨by rw [HF.out]; dsimp only; rw [HE.out]; try rfl, by rw [HF.out]; exact HG2.out, HO.out⟩
          have HN2 : Hid (n * 10 ^ (9 - r) = (m * 10) * 10 ^ (9 - (j + 1))) := by
            unfold Hid
            rw [HM.out, show 9 - j = (9 - (j + 1)) + 1 by omega, Nat.pow_succ, Nat.mul_assoc, Nat.mul_comm 10]
          have gj : (j : Int) < 9 := by omega
          clear HM hmb
          go_wp2_with fail
          exact ⟨⟨j + 1, m * 10, by go_num, by go_num, by omega, HN2.out, trivial⟩, by simp [intOf]; omega⟩
      case neg =>
        clear hcs h1 hsk
        go_wp2_with (refine wpl_store rfl rfl moS rfl rfl (cs := [.string (s.extract r s.size)]) rfl rfl (one_cell rfl) HG.out (Nat.le_of_ble_eq_true rfl) (row := [.string (s.extract r s.size), .bool b]) rfl ?_; generalize hW : World.setRow _ _ _ = w2; have HO := Lib.hid (Only.of_row hW HG.out); have HG2 := Lib.hid (setRow_of hW HG.out).1; clear hW)
        clear c0 c1
        go_loopw [3, 4] (fun nv kv wr => ∃ (j m : Nat), kv = .int .i64 (j : Int) ∧ nv = .int .i64 (m : Int) ∧ j ≤ 9 ∧ Hid (n * 10 ^ (9 - r) = m * 10 ^ (9 - j)) ∧ w2 = wr) (fun _ kv _ => 9 - (intOf kv).toNat)
        case atStart => exact ⟨r, n, rfl, rfl, by omega, by unfold Hid; rfl, rfl⟩
        case round =>
          obtain ⟨j, m, rfl, rfl, hj9, HM, rfl⟩ := hrel
          have hmb : m ≤ 1000000000 := by
            have h1 := HV9.out
            rw [HM.out] at h1
            have h2 : 0 < 10 ^ (9 - j) := Nat.pow_pos (by decide)
            exact Nat.le_trans (Nat.le_mul_of_pos_right m h2) h1
          have hbd : (m : Int) ≤ 1000000000 := by omega
          by_cases hj : j < 9
          case neg =>
            obtain rfl : j = 9 := by omega
            have HE : Hid (n * 10 ^ (9 - r) = m) := by unfold Hid; rw [HM.out]; exact Nat.mul_one m
            clear HM hmb hj
            go_wp2_with fail
            go_ret
            exact ⟨by rw [HF.out]; dsimp only; rw [HE.out]; try rfl, by rw [HF.out]; exact HG2.out, HO.out⟩
          have HN2 : Hid (n * 10 ^ (9 - r) = (m * 10) * 10 ^ (9 - (j + 1))) := by
            unfold Hid
            rw [HM.out, show 9 - j = (9 - (j + 1)) + 1 by omega, Nat.pow_succ, Nat.mul_assoc, Nat.mul_comm 10]
          have gj : (j : Int) < 9 := by omega
          clear HM hmb
          go_wp2_with fail
          exact ⟨⟨j + 1, m * 10, by go_num, by go_num, by omega, HN2.out, trivial⟩, by simp [intOf]; omega⟩
end Go.Proofs.YtlnpfpjncnkekaaGreatDoor

namespace Go.Proofs.YtlnpfpjncnkekaaGreatDoor
open Go.RowKit
set_option maxHeartbeats 600000
set_option maxRecDepth 100000

structure Fl where
  y : Nat
  mo : Nat
  d : Nat
  ho : Nat
  mi : Nat
  se : Nat
  na : Nat
  sg : Nat
  oh : Nat
  om : Nat
def flC (f : Fl) : List Value := [.int .i64 (f.y : Int), .int .i64 (f.mo : Int), .int .i64 (f.d : Int), .int .i64 (f.ho : Int), .int .i64 (f.mi : Int), .int .i64 (f.se : Int), .int .i64 (f.na : Int), .int .u8 (f.sg : Int), .int .i64 (f.oh : Int), .int .i64 (f.om : Int)]
/-- The block of the fields. -/
def FlA (w : World) (h : Nat) (f : Fl) : Prop := w.heap[h]? = some (.cells (flC f).toArray 100 (0, 0))
theorem FlA.only {g h : Nat} {w w' : World} {f : Fl} (hf : FlA w h f) (ho : Only g w w') (hne : h ≠ g) : FlA w' h f := (ho.o h hne).trans hf
theorem RdA.only {g h : Nat} {w w' : World} {x : ByteArray × Bool} (hf : RdA w g x) (ho : Only h w w') (hne : g ≠ h) : RdA w' g x := (ho.o g hne).trans hf
/-- A call that writes these two blocks alone. -/
structure Only2 (g h : Nat) (w w' : World) : Prop where
  b : ∀ B, B ≤ g → B ≤ h → Below B w w'
  o : ∀ j, j ≠ g → j ≠ h → w'.heap[j]? = w.heap[j]?
  z : w'.heap.size = w.heap.size
theorem Only2.refl (g h : Nat) (w : World) : Only2 g h w w := ⟨fun B _ _ => Below.refl B w, fun _ _ _ => rfl, rfl⟩
theorem Only2.trans {g h : Nat} {w w1 w2 : World} (h1 : Only2 g h w w1) (h2 : Only2 g h w1 w2) : Only2 g h w w2 :=
  ⟨fun B hB hC => (h1.b B hB hC).trans (h2.b B hB hC), fun j hj hk => (h2.o j hj hk).trans (h1.o j hj hk), h2.z.trans h1.z⟩
theorem Only.one2 {g h : Nat} {w w' : World} (h1 : Only g w w') : Only2 g h w w' := ⟨fun B hB _ => h1.b B hB, fun j hj _ => h1.o j hj, h1.z⟩
theorem Only.two2 {g h : Nat} {w w' : World} (h1 : Only h w w') : Only2 g h w w' := ⟨fun B _ hC => h1.b B hC, fun j _ hk => h1.o j hk, h1.z⟩
theorem ext_le (s : ByteArray) (k : Nat) : (s.extract k s.size).size ≤ s.size := by rw [ByteArray.size_extract]; omega
theorem numS_sz (k : Nat) (x : ByteArray × Bool) : (numS k x).2.1.size ≤ x.1.size := by
  unfold numS
  split
  · exact ext_le _ _
  · exact Nat.le_refl _
theorem oneS_sz (of : ByteArray) (x : ByteArray × Bool) : (oneS of x).2.1.size ≤ x.1.size := by
  unfold oneS
  split
  · exact Nat.le_refl _
  split
  · exact ext_le _ _
  · exact Nat.le_refl _
theorem fracS_sz (x : ByteArray × Bool) : (fracS x).2.1.size ≤ x.1.size := by
  unfold fracS
  split
  · exact Nat.le_refl _
  · exact ext_le _ _
theorem number_x (g k : Nat) (x : ByteArray × Bool) (w : World) (hs : x.1.size ≤ 1000000000) (hk9 : k ≤ 9) (hg : RdA w g x) :
    Calls Tryz.prog 161 #[.pointer (some ⟨g, 0, none⟩), .int .i64 k] w (NumPost g w (numS k x)) := by
  obtain ⟨s, b⟩ := x
  exact number_any g k s b w hs hk9 hg
theorem one_x (g : Nat) (of : ByteArray) (x : ByteArray × Bool) (w : World) (hs : x.1.size ≤ 1000000000) (ho : of.size ≤ 100) (hg : RdA w g x) :
    Calls Tryz.prog 123 #[.pointer (some ⟨g, 0, none⟩), .string of] w (OnePost g w (oneS of x)) := by
  obtain ⟨s, b⟩ := x
  exact one_any2 g of s b w hs ho hg
theorem fraction_x (g : Nat) (x : ByteArray × Bool) (w : World) (hs : x.1.size ≤ 1000000000) (hg : RdA w g x) :
    Calls Tryz.prog 162 #[.pointer (some ⟨g, 0, none⟩)] w (NumPost g w (fracS x)) := by
  obtain ⟨s, b⟩ := x
  exact fraction_any g s b w hs hg
def dsh : ByteArray := ⟨#[45]⟩
def col : ByteArray := ⟨#[58]⟩
def dateS (x : ByteArray × Bool) (f : Fl) : (ByteArray × Bool) × Fl :=
  ((numS 2 (oneS dsh (numS 2 (oneS dsh (numS 4 x).2).2).2).2).2, { f with y := (numS 4 x).1, mo := (numS 2 (oneS dsh (numS 4 x).2).2).1, d := (numS 2 (oneS dsh (numS 2 (oneS dsh (numS 4 x).2).2).2).2).1 })
/-- A time of day without its fraction. -/
def hmsS (x : ByteArray × Bool) (f : Fl) : (ByteArray × Bool) × Fl :=
  ((numS 2 (oneS col (numS 2 (oneS col (numS 2 x).2).2).2).2).2, { f with ho := (numS 2 x).1, mi := (numS 2 (oneS col (numS 2 x).2).2).1, se := (numS 2 (oneS col (numS 2 (oneS col (numS 2 x).2).2).2).2).1 })
def dotS (y : (ByteArray × Bool) × Fl) : (ByteArray × Bool) × Fl :=
  if (L y.1.1).head? = some 46 then ((fracS (y.1.1.extract 1 y.1.1.size, y.1.2)).2, { y.2 with na := (fracS (y.1.1.extract 1 y.1.1.size, y.1.2)).1 }) else y
def clockS (x : ByteArray × Bool) (f : Fl) : (ByteArray × Bool) × Fl := dotS (hmsS x f)
def sgn4 : ByteArray := ⟨#[90, 122, 43, 45]⟩
def sepT : ByteArray := ⟨#[84, 116, 32]⟩
def offS (x : ByteArray × Bool) (f : Fl) : (ByteArray × Bool) × Fl :=
  if (oneS sgn4 x).1 = 43 ∨ (oneS sgn4 x).1 = 45 then
    ((numS 2 (oneS col (numS 2 (oneS sgn4 x).2).2).2).2, { f with sg := (oneS sgn4 x).1, oh := (numS 2 (oneS sgn4 x).2).1, om := (numS 2 (oneS col (numS 2 (oneS sgn4 x).2).2).2).1 })
  else ((oneS sgn4 x).2, { f with sg := (oneS sgn4 x).1 })
def formS (x : ByteArray × Bool) (f : Fl) : Nat × (ByteArray × Bool) × Fl :=
  if (L x.1)[2]? = some 58 then (2, clockS x f)
  else if L (dateS x f).1.1 = [] then (1, dateS x f)
  else if L (clockS (oneS sepT (dateS x f).1).2 (dateS x f).2).1.1 = [] then (3, clockS (oneS sepT (dateS x f).1).2 (dateS x f).2)
  else (4, offS (clockS (oneS sepT (dateS x f).1).2 (dateS x f).2).1 (clockS (oneS sepT (dateS x f).1).2 (dateS x f).2).2)
theorem dateS_sz (x : ByteArray × Bool) (f : Fl) : (dateS x f).1.1.size ≤ x.1.size :=
  Nat.le_trans (numS_sz _ _) (Nat.le_trans (oneS_sz _ _) (Nat.le_trans (numS_sz _ _) (Nat.le_trans (oneS_sz _ _) (numS_sz _ _))))
theorem hmsS_sz (x : ByteArray × Bool) (f : Fl) : (hmsS x f).1.1.size ≤ x.1.size :=
  Nat.le_trans (numS_sz _ _) (Nat.le_trans (oneS_sz _ _) (Nat.le_trans (numS_sz _ _) (Nat.le_trans (oneS_sz _ _) (numS_sz _ _))))
theorem clockS_sz (x : ByteArray × Bool) (f : Fl) : (clockS x f).1.1.size ≤ x.1.size := by
  have h := hmsS_sz x f
  unfold clockS
  generalize hmsS x f = y at *
  obtain ⟨⟨s, b⟩, f1⟩ := y
  unfold dotS
  dsimp only at h ⊢
  split
  · exact Nat.le_trans (fracS_sz (s.extract 1 s.size, b)) (Nat.le_trans (ext_le s 1) h)
  · exact h
/-- What the methods that fill the fields do. -/
def FilPost (g h : Nat) (w : World) (y : (ByteArray × Bool) × Fl) (e : Ending) (w' : World) : Prop := e = .returned (.tuple #[]) ∧ RdA w' g y.1 ∧ FlA w' h y.2 ∧ Only2 g h w w'

theorem date_x (g h : Nat) (x : ByteArray × Bool) (f : Fl) (w : World) (hs : x.1.size ≤ 1000000000) (hne : h ≠ g) (hg : RdA w g x) (hf : FlA w h f) :
    Calls Tryz.prog 122 #[.pointer (some ⟨g, 0, none⟩), .pointer (some ⟨h, 0, none⟩)] w (FilPost g h w (dateS x f)) := by
  have HR := Lib.hid hg
  have HF := Lib.hid hf
  have HO := Lib.hid (Only2.refl g h w)
  have HX := Lib.hid hs
  clear hg hf hs
  obtain ⟨y0, hy0⟩ : ∃ y0, y0 = dateS x f := ⟨_, rfl⟩
  rw [← hy0]
  unfold dateS at hy0
  have HY := Lib.hid hy0
  clear hy0
  go_enter Tryz.func122, Tryz.ntmps122
  go_wp2_with fail
  refine (number_x g 4 _ _ HX.out (by decide) HR.out).mono ?_
  rintro e wn ⟨rfl, hr, ho⟩
  replace HR := Lib.hid hr
  replace HF := Lib.hid (HF.out.only ho hne)
  replace HO := Lib.hid (HO.out.trans ho.one2)
  have hsz := Nat.le_trans (numS_sz 4 x) HX.out
  clear hr ho HX
  generalize numS 4 x = yy at *
  obtain ⟨v1, x⟩ := yy
  dsimp only at HR HY hsz ⊢
  have HX := Lib.hid hsz
  clear hsz
  go_wp2_with (refine wpl_store rfl rfl moI rfl rfl (cs := [.int .i64 (v1 : Int)]) rfl rfl (one_cell rfl) HF.out (Nat.le_of_ble_eq_true rfl) (row := flC { f with y := v1 }) rfl ?_; generalize hW : World.setRow _ _ _ = ws; have hoo := Only.of_row hW HF.out; replace HR := Lib.hid (HR.out.only hoo hne.symm); replace HO := Lib.hid (HO.out.trans hoo.two2); replace HF : Hid (FlA ws h { f with y := v1 }) := (setRow_of hW HF.out).1; clear hoo hW)
  refine (one_x g dsh _ _ HX.out (by decide) HR.out).mono ?_
  rintro e wn ⟨rfl, hr, ho⟩
  replace HR := Lib.hid hr
  replace HF := Lib.hid (HF.out.only ho hne)
  replace HO := Lib.hid (HO.out.trans ho.one2)
  have hsz := Nat.le_trans (oneS_sz dsh x) HX.out
  clear hr ho HX
  generalize oneS dsh x = yy at *
  obtain ⟨v2, x⟩ := yy
  dsimp only at HR HY hsz ⊢
  have HX := Lib.hid hsz
  clear hsz
  go_wp2_with fail
  refine (number_x g 2 _ _ HX.out (by decide) HR.out).mono ?_
  rintro e wn ⟨rfl, hr, ho⟩
  replace HR := Lib.hid hr
  replace HF := Lib.hid (HF.out.only ho hne)
  replace HO := Lib.hid (HO.out.trans ho.one2)
  have hsz := Nat.le_trans (numS_sz 2 x) HX.out
  clear hr ho HX
  generalize numS 2 x = yy at *
  obtain ⟨v3, x⟩ := yy
  dsimp only at HR HY hsz ⊢
  have HX := Lib.hid hsz
  clear hsz
  go_wp2_with (refine wpl_store rfl rfl moI rfl rfl (cs := [.int .i64 (v3 : Int)]) rfl rfl (one_cell rfl) HF.out (Nat.le_of_ble_eq_true rfl) (row := flC { f with y := v1, mo := v3 }) rfl ?_; generalize hW : World.setRow _ _ _ = ws; have hoo := Only.of_row hW HF.out; replace HR := Lib.hid (HR.out.only hoo hne.symm); replace HO := Lib.hid (HO.out.trans hoo.two2); replace HF : Hid (FlA ws h { f with y := v1, mo := v3 }) := (setRow_of hW HF.out).1; clear hoo hW)
  refine (one_x g dsh _ _ HX.out (by decide) HR.out).mono ?_
  rintro e wn ⟨rfl, hr, ho⟩
  replace HR := Lib.hid hr
  replace HF := Lib.hid (HF.out.only ho hne)
  replace HO := Lib.hid (HO.out.trans ho.one2)
  have hsz := Nat.le_trans (oneS_sz dsh x) HX.out
  clear hr ho HX
  generalize oneS dsh x = yy at *
  obtain ⟨v4, x⟩ := yy
  dsimp only at HR HY hsz ⊢
  have HX := Lib.hid hsz
  clear hsz
  go_wp2_with fail
  refine (number_x g 2 _ _ HX.out (by decide) HR.out).mono ?_
  rintro e wn ⟨rfl, hr, ho⟩
  replace HR := Lib.hid hr
  replace HF := Lib.hid (HF.out.only ho hne)
  replace HO := Lib.hid (HO.out.trans ho.one2)
  have hsz := Nat.le_trans (numS_sz 2 x) HX.out
  clear hr ho HX
  generalize numS 2 x = yy at *
  obtain ⟨v5, x⟩ := yy
  dsimp only at HR HY hsz ⊢
  have HX := Lib.hid hsz
  clear hsz
  go_wp2_with (refine wpl_store rfl rfl moI rfl rfl (cs := [.int .i64 (v5 : Int)]) rfl rfl (one_cell rfl) HF.out (Nat.le_of_ble_eq_true rfl) (row := flC { f with y := v1, mo := v3, d := v5 }) rfl ?_; generalize hW : World.setRow _ _ _ = ws; have hoo := Only.of_row hW HF.out; replace HR := Lib.hid (HR.out.only hoo hne.symm); replace HO := Lib.hid (HO.out.trans hoo.two2); replace HF : Hid (FlA ws h { f with y := v1, mo := v3, d := v5 }) := (setRow_of hW HF.out).1; clear hoo hW)
  go_end0
  exact ⟨rfl, by rw [HY.out]; exact HR.out, by rw [HY.out]; exact HF.out, HO.out⟩
theorem clock_x (g h : Nat) (x : ByteArray × Bool) (f : Fl) (w : World) (hs : x.1.size ≤ 1000000000) (hne : h ≠ g) (hg : RdA w g x) (hf : FlA w h f) :
    Calls Tryz.prog 121 #[.pointer (some ⟨g, 0, none⟩), .pointer (some ⟨h, 0, none⟩)] w (FilPost g h w (clockS x f)) := by
  have HR := Lib.hid hg
  have HF := Lib.hid hf
  have HO := Lib.hid (Only2.refl g h w)
  have HX := Lib.hid hs
  clear hg hf hs
  obtain ⟨y0, hy0⟩ : ∃ y0, y0 = clockS x f := ⟨_, rfl⟩
  rw [← hy0]
  unfold clockS hmsS at hy0
  have HY := Lib.hid hy0
  clear hy0
  go_enter Tryz.func121, Tryz.ntmps121
  go_wp2_with fail
  refine (number_x g 2 _ _ HX.out (by decide) HR.out).mono ?_
  rintro e wn ⟨rfl, hr, ho⟩
  replace HR := Lib.hid hr
  replace HF := Lib.hid (HF.out.only ho hne)
  replace HO := Lib.hid (HO.out.trans ho.one2)
  have hsz := Nat.le_trans (numS_sz 2 x) HX.out
  clear hr ho HX
  generalize numS 2 x = yy at *
  obtain ⟨v6, x⟩ := yy
  dsimp only at HR HY hsz ⊢
  have HX := Lib.hid hsz
  clear hsz
  go_wp2_with (refine wpl_store rfl rfl moI rfl rfl (cs := [.int .i64 (v6 : Int)]) rfl rfl (one_cell rfl) HF.out (Nat.le_of_ble_eq_true rfl) (row := flC { f with ho := v6 }) rfl ?_; generalize hW : World.setRow _ _ _ = ws; have hoo := Only.of_row hW HF.out; replace HR := Lib.hid (HR.out.only hoo hne.symm); replace HO := Lib.hid (HO.out.trans hoo.two2); replace HF : Hid (FlA ws h { f with ho := v6 }) := (setRow_of hW HF.out).1; clear hoo hW)
  refine (one_x g col _ _ HX.out (by decide) HR.out).mono ?_
  rintro e wn ⟨rfl, hr, ho⟩
  replace HR := Lib.hid hr
  replace HF := Lib.hid (HF.out.only ho hne)
  replace HO := Lib.hid (HO.out.trans ho.one2)
  have hsz := Nat.le_trans (oneS_sz col x) HX.out
  clear hr ho HX
  generalize oneS col x = yy at *
  obtain ⟨v7, x⟩ := yy
  dsimp only at HR HY hsz ⊢
  have HX := Lib.hid hsz
  clear hsz
  go_wp2_with fail
  refine (number_x g 2 _ _ HX.out (by decide) HR.out).mono ?_
  rintro e wn ⟨rfl, hr, ho⟩
  replace HR := Lib.hid hr
  replace HF := Lib.hid (HF.out.only ho hne)
  replace HO := Lib.hid (HO.out.trans ho.one2)
  have hsz := Nat.le_trans (numS_sz 2 x) HX.out
  clear hr ho HX
  generalize numS 2 x = yy at *
  obtain ⟨v8, x⟩ := yy
  dsimp only at HR HY hsz ⊢
  have HX := Lib.hid hsz
  clear hsz
  go_wp2_with (refine wpl_store rfl rfl moI rfl rfl (cs := [.int .i64 (v8 : Int)]) rfl rfl (one_cell rfl) HF.out (Nat.le_of_ble_eq_true rfl) (row := flC { f with ho := v6, mi := v8 }) rfl ?_; generalize hW : World.setRow _ _ _ = ws; have hoo := Only.of_row hW HF.out; replace HR := Lib.hid (HR.out.only hoo hne.symm); replace HO := Lib.hid (HO.out.trans hoo.two2); replace HF : Hid (FlA ws h { f with ho := v6, mi := v8 }) := (setRow_of hW HF.out).1; clear hoo hW)
  refine (one_x g col _ _ HX.out (by decide) HR.out).mono ?_
  rintro e wn ⟨rfl, hr, ho⟩
  replace HR := Lib.hid hr
  replace HF := Lib.hid (HF.out.only ho hne)
  replace HO := Lib.hid (HO.out.trans ho.one2)
  have hsz := Nat.le_trans (oneS_sz col x) HX.out
  clear hr ho HX
  generalize oneS col x = yy at *
  obtain ⟨v9, x⟩ := yy
  dsimp only at HR HY hsz ⊢
  have HX := Lib.hid hsz
  clear hsz
  go_wp2_with fail
  refine (number_x g 2 _ _ HX.out (by decide) HR.out).mono ?_
  rintro e wn ⟨rfl, hr, ho⟩
  replace HR := Lib.hid hr
  replace HF := Lib.hid (HF.out.only ho hne)
  replace HO := Lib.hid (HO.out.trans ho.one2)
  have hsz := Nat.le_trans (numS_sz 2 x) HX.out
  clear hr ho HX
  generalize numS 2 x = yy at *
  obtain ⟨v10, x⟩ := yy
  dsimp only at HR HY hsz ⊢
  have HX := Lib.hid hsz
  clear hsz
  obtain ⟨s, b⟩ := x
  dsimp only at HR HY HX
  have hX : s.size ≤ 1000000000 := HX.out
  have hm : s.size ≤ maxLen := by simp only [maxLen]; omega
  clear HX
  unfold dotS at HY
  dsimp only at HY
  by_cases he : L s = []
  · have he1 : s.toList.isEmpty = true := by rw [empty_L]; simpa using he
    have HE : Hid (y0 = ((s, b), { f with ho := v6, mi := v8, se := v10 })) := by unfold Hid; rw [HY.out, he]; rfl
    clear HY he
    go_upto_region 5 with (refine wpl_store rfl rfl moI rfl rfl (cs := [.int .i64 (v10 : Int)]) rfl rfl (one_cell rfl) HF.out (Nat.le_of_ble_eq_true rfl) (row := flC { f with ho := v6, mi := v8, se := v10 }) rfl ?_; generalize hW : World.setRow _ _ _ = ws; have hoo := Only.of_row hW HF.out; replace HR := Lib.hid (HR.out.only hoo hne.symm); replace HO := Lib.hid (HO.out.trans hoo.two2); replace HF : Hid (FlA ws h { f with ho := v6, mi := v8, se := v10 }) := (setRow_of hW HF.out).1; clear hoo hW)
    obtain ⟨c0, c1⟩ := HR.out.cells
    go_wp2_with fail
    go_end0
    exact ⟨rfl, by rw [HE.out]; exact HR.out, by rw [HE.out]; exact HF.out, HO.out⟩
  have he1 : s.toList.isEmpty = false := by rw [empty_L]; simpa using he
  have hp := size_pos he
  have hh : (L s).head? = some s[0] := by
    have h := L_drop s 0 hp
    rw [List.drop_zero] at h
    rw [h]
    rfl
  by_cases h46 : s[0].toNat = 46
  case neg =>
    have g46 := beqNB s[0] 46 (by omega)
    have HE : Hid (y0 = ((s, b), { f with ho := v6, mi := v8, se := v10 })) := by unfold Hid; rw [HY.out, hh, if_neg (fun h => h46 (by rw [Option.some.inj h]; rfl))]
    clear HY he hh h46
    go_upto_region 5 with (refine wpl_store rfl rfl moI rfl rfl (cs := [.int .i64 (v10 : Int)]) rfl rfl (one_cell rfl) HF.out (Nat.le_of_ble_eq_true rfl) (row := flC { f with ho := v6, mi := v8, se := v10 }) rfl ?_; generalize hW : World.setRow _ _ _ = ws; have hoo := Only.of_row hW HF.out; replace HR := Lib.hid (HR.out.only hoo hne.symm); replace HO := Lib.hid (HO.out.trans hoo.two2); replace HF : Hid (FlA ws h { f with ho := v6, mi := v8, se := v10 }) := (setRow_of hW HF.out).1; clear hoo hW)
    obtain ⟨c0, c1⟩ := HR.out.cells
    go_wp2_with fail
    go_end0
    exact ⟨rfl, by rw [HE.out]; exact HR.out, by rw [HE.out]; exact HF.out, HO.out⟩
  have g46 := beqB s[0] 46 (by omega)
  replace HY : Hid (y0 = ((fracS (s.extract 1 s.size, b)).2, { f with ho := v6, mi := v8, se := v10, na := (fracS (s.extract 1 s.size, b)).1 })) := by
    unfold Hid
    rw [HY.out, hh, if_pos (by rw [UInt8.toNat_inj.1 (show s[0].toNat = (46 : UInt8).toNat from h46)])]
  clear he hh h46
  go_upto_region 5 with (refine wpl_store rfl rfl moI rfl rfl (cs := [.int .i64 (v10 : Int)]) rfl rfl (one_cell rfl) HF.out (Nat.le_of_ble_eq_true rfl) (row := flC { f with ho := v6, mi := v8, se := v10 }) rfl ?_; generalize hW : World.setRow _ _ _ = ws; have hoo := Only.of_row hW HF.out; replace HR := Lib.hid (HR.out.only hoo hne.symm); replace HO := Lib.hid (HO.out.trans hoo.two2); replace HF : Hid (FlA ws h { f with ho := v6, mi := v8, se := v10 }) := (setRow_of hW HF.out).1; clear hoo hW)
  obtain ⟨c0, c1⟩ := HR.out.cells
  go_wp2_with (refine wpl_store rfl rfl moS rfl rfl (cs := [.string (s.extract 1 s.size)]) rfl rfl (one_cell rfl) HR.out (Nat.le_of_ble_eq_true rfl) (row := rdC (s.extract 1 s.size, b)) rfl ?_; generalize hW : World.setRow _ _ _ = ws; have hoo := Only.of_row hW HR.out; replace HF := Lib.hid (HF.out.only hoo hne); replace HO := Lib.hid (HO.out.trans hoo.one2); replace HR : Hid (RdA ws g (s.extract 1 s.size, b)) := (setRow_of hW HR.out).1; clear hoo hW c0 c1)
  have HX : Hid ((s.extract 1 s.size, b).1.size ≤ 1000000000) := Nat.le_trans (ext_le s 1) hX
  obtain ⟨x, hx⟩ : ∃ x, x = (s.extract 1 s.size, b) := ⟨_, rfl⟩
  rw [← hx] at HX HR HY
  clear hx
  refine (fraction_x g _ _ HX.out HR.out).mono ?_
  rintro e wn ⟨rfl, hr, ho⟩
  replace HR := Lib.hid hr
  replace HF := Lib.hid (HF.out.only ho hne)
  replace HO := Lib.hid (HO.out.trans ho.one2)
  have hsz := Nat.le_trans (fracS_sz x) HX.out
  clear hr ho HX
  generalize fracS x = yy at *
  obtain ⟨v11, x⟩ := yy
  dsimp only at HR HY hsz ⊢
  have HX := Lib.hid hsz
  clear hsz
  go_wp2_with (refine wpl_store rfl rfl moI rfl rfl (cs := [.int .i64 (v11 : Int)]) rfl rfl (one_cell rfl) HF.out (Nat.le_of_ble_eq_true rfl) (row := flC { f with ho := v6, mi := v8, se := v10, na := v11 }) rfl ?_; generalize hW : World.setRow _ _ _ = ws; have hoo := Only.of_row hW HF.out; replace HR := Lib.hid (HR.out.only hoo hne.symm); replace HO := Lib.hid (HO.out.trans hoo.two2); replace HF : Hid (FlA ws h { f with ho := v6, mi := v8, se := v10, na := v11 }) := (setRow_of hW HF.out).1; clear hoo hW)
  go_end0
  exact ⟨rfl, by rw [HY.out]; exact HR.out, by rw [HY.out]; exact HF.out, HO.out⟩
theorem offset_x (g h : Nat) (x : ByteArray × Bool) (f : Fl) (w : World) (hs : x.1.size ≤ 1000000000) (hne : h ≠ g) (hg : RdA w g x) (hf : FlA w h f) :
    Calls Tryz.prog 124 #[.pointer (some ⟨g, 0, none⟩), .pointer (some ⟨h, 0, none⟩)] w (FilPost g h w (offS x f)) := by
  have HR := Lib.hid hg
  have HF := Lib.hid hf
  have HO := Lib.hid (Only2.refl g h w)
  have HX := Lib.hid hs
  clear hg hf hs
  obtain ⟨y0, hy0⟩ : ∃ y0, y0 = offS x f := ⟨_, rfl⟩
  rw [← hy0]
  unfold offS at hy0
  have HY := Lib.hid hy0
  clear hy0
  go_enter Tryz.func124, Tryz.ntmps124
  go_wp2_with fail
  refine (one_x g sgn4 _ _ HX.out (by decide) HR.out).mono ?_
  rintro e wn ⟨rfl, hr, ho⟩
  replace HR := Lib.hid hr
  replace HF := Lib.hid (HF.out.only ho hne)
  replace HO := Lib.hid (HO.out.trans ho.one2)
  have hsz := Nat.le_trans (oneS_sz sgn4 x) HX.out
  clear hr ho HX
  generalize oneS sgn4 x = yy at *
  obtain ⟨v12, x⟩ := yy
  dsimp only at HR HY hsz ⊢
  have HX := Lib.hid hsz
  clear hsz
  by_cases h43 : v12 = 43 ∨ v12 = 45
  case neg =>
    have HE : Hid (y0 = (x, { f with sg := v12 })) := by unfold Hid; rw [HY.out, if_neg h43]
    clear HY
    go_upto_region 1 with (refine wpl_store rfl rfl moU rfl rfl (cs := [.int .u8 (v12 : Int)]) rfl rfl (one_cell rfl) HF.out (Nat.le_of_ble_eq_true rfl) (row := flC { f with sg := v12 }) rfl ?_; generalize hW : World.setRow _ _ _ = ws; have hoo := Only.of_row hW HF.out; replace HR := Lib.hid (HR.out.only hoo hne.symm); replace HO := Lib.hid (HO.out.trans hoo.two2); replace HF : Hid (FlA ws h { f with sg := v12 }) := (setRow_of hW HF.out).1; clear hoo hW)
    have c7 : ws.cell? ⟨h, 7, none⟩ = some (.int .u8 (v12 : Int)) := (cell_of_row ws h _ _ _ (0, 0) HF.out).trans rfl
    have g1 : (((v12 : Nat) : Int) == 43) = false := by rw [beq_eq_false_iff_ne]; omega
    have g2 : (((v12 : Nat) : Int) == 45) = false := by rw [beq_eq_false_iff_ne]; omega
    clear h43
    go_wp2_with fail
    go_end0
    exact ⟨rfl, by rw [HE.out]; exact HR.out, by rw [HE.out]; exact HF.out, HO.out⟩
  replace HY := Lib.hid (HY.out.trans (if_pos h43))
  go_upto_region 1 with (refine wpl_store rfl rfl moU rfl rfl (cs := [.int .u8 (v12 : Int)]) rfl rfl (one_cell rfl) HF.out (Nat.le_of_ble_eq_true rfl) (row := flC { f with sg := v12 }) rfl ?_; generalize hW : World.setRow _ _ _ = ws; have hoo := Only.of_row hW HF.out; replace HR := Lib.hid (HR.out.only hoo hne.symm); replace HO := Lib.hid (HO.out.trans hoo.two2); replace HF : Hid (FlA ws h { f with sg := v12 }) := (setRow_of hW HF.out).1; clear hoo hW)
  have c7 : ws.cell? ⟨h, 7, none⟩ = some (.int .u8 (v12 : Int)) := (cell_of_row ws h _ _ _ (0, 0) HF.out).trans rfl
  go_simp
  go_cut [20] (fun u wx => u = .bool true ∧ ws = wx)
  case first =>
    by_cases h1 : v12 = 43
    · have g1 : (((v12 : Nat) : Int) == 43) = true := by rw [beq_iff_eq]; omega
      clear h43
      go_wp2_with fail
      go_meet
      exact ⟨rfl, rfl⟩
    · have g1 : (((v12 : Nat) : Int) == 43) = false := by rw [beq_eq_false_iff_ne]; omega
      have g2 : (((v12 : Nat) : Int) == 45) = true := by rw [beq_iff_eq]; omega
      clear h43
      go_wp2_with fail
      go_meet
      exact ⟨rfl, rfl⟩
  case rest =>
  obtain ⟨hv, rfl⟩ := hcut
  subst hv
  clear c7 h43
  go_wp2_with fail
  refine (number_x g 2 _ _ HX.out (by decide) HR.out).mono ?_
  rintro e wn ⟨rfl, hr, ho⟩
  replace HR := Lib.hid hr
  replace HF := Lib.hid (HF.out.only ho hne)
  replace HO := Lib.hid (HO.out.trans ho.one2)
  have hsz := Nat.le_trans (numS_sz 2 x) HX.out
  clear hr ho HX
  generalize numS 2 x = yy at *
  obtain ⟨v13, x⟩ := yy
  dsimp only at HR HY hsz ⊢
  have HX := Lib.hid hsz
  clear hsz
  go_wp2_with (refine wpl_store rfl rfl moI rfl rfl (cs := [.int .i64 (v13 : Int)]) rfl rfl (one_cell rfl) HF.out (Nat.le_of_ble_eq_true rfl) (row := flC { f with sg := v12, oh := v13 }) rfl ?_; generalize hW : World.setRow _ _ _ = ws; have hoo := Only.of_row hW HF.out; replace HR := Lib.hid (HR.out.only hoo hne.symm); replace HO := Lib.hid (HO.out.trans hoo.two2); replace HF : Hid (FlA ws h { f with sg := v12, oh := v13 }) := (setRow_of hW HF.out).1; clear hoo hW)
  refine (one_x g col _ _ HX.out (by decide) HR.out).mono ?_
  rintro e wn ⟨rfl, hr, ho⟩
  replace HR := Lib.hid hr
  replace HF := Lib.hid (HF.out.only ho hne)
  replace HO := Lib.hid (HO.out.trans ho.one2)
  have hsz := Nat.le_trans (oneS_sz col x) HX.out
  clear hr ho HX
  generalize oneS col x = yy at *
  obtain ⟨v14, x⟩ := yy
  dsimp only at HR HY hsz ⊢
  have HX := Lib.hid hsz
  clear hsz
  go_wp2_with fail
  refine (number_x g 2 _ _ HX.out (by decide) HR.out).mono ?_
  rintro e wn ⟨rfl, hr, ho⟩
  replace HR := Lib.hid hr
  replace HF := Lib.hid (HF.out.only ho hne)
  replace HO := Lib.hid (HO.out.trans ho.one2)
  have hsz := Nat.le_trans (numS_sz 2 x) HX.out
  clear hr ho HX
  generalize numS 2 x = yy at *
  obtain ⟨v15, x⟩ := yy
  dsimp only at HR HY hsz ⊢
  have HX := Lib.hid hsz
  clear hsz
  go_wp2_with (refine wpl_store rfl rfl moI rfl rfl (cs := [.int .i64 (v15 : Int)]) rfl rfl (one_cell rfl) HF.out (Nat.le_of_ble_eq_true rfl) (row := flC { f with sg := v12, oh := v13, om := v15 }) rfl ?_; generalize hW : World.setRow _ _ _ = ws; have hoo := Only.of_row hW HF.out; replace HR := Lib.hid (HR.out.only hoo hne.symm); replace HO := Lib.hid (HO.out.trans hoo.two2); replace HF : Hid (FlA ws h { f with sg := v12, oh := v13, om := v15 }) := (setRow_of hW HF.out).1; clear hoo hW)
  go_end0
  exact ⟨rfl, by rw [HY.out]; exact HR.out, by rw [HY.out]; exact HF.out, HO.out⟩
end Go.Proofs.YtlnpfpjncnkekaaGreatDoor

namespace Go.Proofs.YtlnpfpjncnkekaaGreatDoor
open Go.RowKit
set_option maxHeartbeats 600000
set_option maxRecDepth 100000

/-- What form does. -/
def FormPost (g h : Nat) (w : World) (y : Nat × (ByteArray × Bool) × Fl) (e : Ending) (w' : World) : Prop := e = .returned (.int .i64 (y.1 : Nat)) ∧ RdA w' g y.2.1 ∧ FlA w' h y.2.2 ∧ Only2 g h w w'
theorem form_x (g h : Nat) (x : ByteArray × Bool) (f : Fl) (w : World) (hs : x.1.size ≤ 1000000000) (hne : h ≠ g) (hg : RdA w g x) (hf : FlA w h f) :
    Calls Tryz.prog 73 #[.pointer (some ⟨g, 0, none⟩), .pointer (some ⟨h, 0, none⟩)] w (FormPost g h w (formS x f)) := by
  obtain ⟨y0, hy0⟩ : ∃ y0, y0 = formS x f := ⟨_, rfl⟩
  rw [← hy0]
  unfold formS at hy0
  have HC0 := Lib.hid (clock_x g h x f w hs hne hg hf)
  have HD0 := Lib.hid (date_x g h x f w hs hne hg hf)
  have hds := Nat.le_trans (dateS_sz x f) hs
  obtain ⟨s, b⟩ := x
  have hs' : s.size ≤ 1000000000 := hs
  have hm : s.size ≤ maxLen := by simp only [maxLen]; omega
  obtain ⟨c0, c1⟩ := hg.cells
  clear hg hf hs
  dsimp only at hy0
  by_cases h58 : (L s)[2]? = some 58
  case pos =>
    have HE : Hid (y0 = (2, clockS (s, b) f)) := by unfold Hid; rw [hy0, if_pos h58]
    have hsz : 2 < s.size := by
      rcases Nat.lt_or_ge 2 s.size with h1 | h1
      · exact h1
      · rw [List.getElem?_eq_none (by rw [L_len]; exact h1)] at h58
        cases h58
    have g2 : (2 : Int) < (s.size : Int) := by omega
    have h3 : s[2] = 58 := by
      rw [List.getElem?_eq_getElem (by rw [L_len]; exact hsz)] at h58
      exact Option.some.inj h58
    have g58 := beqB s[2] 58 (by rw [h3]; rfl)
    clear hy0 h58 h3 HD0 hds
    go_enter Tryz.func73, Tryz.ntmps73
    go_wp2_with fail
    refine HC0.out.mono ?_
    rintro e w1 ⟨rfl, hr, hf, ho⟩
    have HR := Lib.hid hr
    have HF := Lib.hid hf
    have HO := Lib.hid ho
    clear hr hf ho c0 c1 HC0
    go_wp2_with fail
    go_ret
    exact ⟨by rw [HE.out]; try rfl, by rw [HE.out]; exact HR.out, by rw [HE.out]; exact HF.out, HO.out⟩
  have HY := Lib.hid (hy0.trans (if_neg h58))
  clear hy0
  go_enter Tryz.func73, Tryz.ntmps73
  go_upto_region 1 with fail
  go_cut [18] (fun v wx => v = .bool false ∧ w = wx)
  case first =>
    by_cases hsz : 2 < s.size
    · have g2 : (2 : Int) < (s.size : Int) := by omega
      have g58 := beqNB s[2] 58 (by
        intro h
        apply h58
        rw [List.getElem?_eq_getElem (by rw [L_len]; exact hsz)]
        have h2 : s[2].toNat = 58 := by omega
        exact congrArg some (UInt8.toNat_inj.1 (show s[2].toNat = (58 : UInt8).toNat from h2)))
      clear h58
      go_wp2_with fail
      go_meet
      exact ⟨rfl, rfl⟩
    · have g2 : ¬ (2 : Int) < (s.size : Int) := by omega
      clear h58
      go_wp2_with fail
      go_meet
      exact ⟨rfl, rfl⟩
  case rest =>
  obtain ⟨hv, rfl⟩ := hcut
  subst hv
  clear c0 c1 h58 HC0
  go_wp2_with fail
  refine HD0.out.mono ?_
  rintro e w1 ⟨rfl, hr, hf, ho⟩
  have HR := Lib.hid hr
  have HF := Lib.hid hf
  have HO := Lib.hid ho
  clear hr hf ho HD0
  generalize dateS (s, b) f = d at *
  obtain ⟨x1, f1⟩ := d
  dsimp only at HR HF hds
  have HX := Lib.hid hds
  have HY1 : Hid (y0 = if L x1.1 = [] then (1, x1, f1) else if L (clockS (oneS sepT x1).2 f1).1.1 = [] then (3, clockS (oneS sepT x1).2 f1) else (4, offS (clockS (oneS sepT x1).2 f1).1 (clockS (oneS sepT x1).2 f1).2)) := HY.out
  clear hds HY
  obtain ⟨s1, b1⟩ := x1
  dsimp only at HY1
  obtain ⟨c0, c1⟩ := HR.out.cells
  by_cases he : L s1 = []
  case pos =>
    have he1 : s1.toList.isEmpty = true := by rw [empty_L]; simpa using he
    have HE : Hid (y0 = (1, (s1, b1), f1)) := by unfold Hid; rw [HY1.out, if_pos he]
    clear HY1 he
    go_wp2_with fail
    go_ret
    exact ⟨by rw [HE.out]; try rfl, by rw [HE.out]; exact HR.out, by rw [HE.out]; exact HF.out, HO.out⟩
  have he1 : s1.toList.isEmpty = false := by rw [empty_L]; simpa using he
  replace HY1 := Lib.hid (HY1.out.trans (if_neg he))
  clear he
  go_wp2_with fail
  refine (one_x g sepT _ _ HX.out (by decide) HR.out).mono ?_
  rintro e w2 ⟨rfl, hr, ho⟩
  have hsz := Nat.le_trans (oneS_sz sepT (s1, b1)) HX.out
  replace HR := Lib.hid hr
  replace HF := Lib.hid (HF.out.only ho hne)
  replace HO := Lib.hid (HO.out.trans ho.one2)
  clear hr ho HX c0 c1 he1
  generalize oneS sepT (s1, b1) = yy at *
  obtain ⟨v2, x2⟩ := yy
  dsimp only at HR hsz HY1 ⊢
  go_wp2_with fail
  refine (clock_x g h x2 f1 w2 hsz hne HR.out HF.out).mono ?_
  rintro e w3 ⟨rfl, hr, hf, ho⟩
  replace hsz := Nat.le_trans (clockS_sz x2 f1) hsz
  replace HR := Lib.hid hr
  replace HF := Lib.hid hf
  replace HO := Lib.hid (HO.out.trans ho)
  clear hr hf ho
  generalize clockS x2 f1 = yy at *
  obtain ⟨⟨s3, b3⟩, f3⟩ := yy
  dsimp only at HR HF hsz HY1 ⊢
  obtain ⟨c0, c1⟩ := HR.out.cells
  by_cases he : L s3 = []
  case pos =>
    have he1 : s3.toList.isEmpty = true := by rw [empty_L]; simpa using he
    have HE : Hid (y0 = (3, (s3, b3), f3)) := by unfold Hid; rw [HY1.out, if_pos he]
    clear HY1 he
    go_wp2_with fail
    go_ret
    exact ⟨by rw [HE.out]; try rfl, by rw [HE.out]; exact HR.out, by rw [HE.out]; exact HF.out, HO.out⟩
  have he1 : s3.toList.isEmpty = false := by rw [empty_L]; simpa using he
  replace HY1 := Lib.hid (HY1.out.trans (if_neg he))
  clear he
  go_wp2_with fail
  refine (offset_x g h (s3, b3) f3 w3 hsz hne HR.out HF.out).mono ?_
  rintro e w4 ⟨rfl, hr, hf, ho⟩
  replace HR := Lib.hid hr
  replace HF := Lib.hid hf
  replace HO := Lib.hid (HO.out.trans ho)
  clear hr hf ho c0 c1 he1
  generalize offS (s3, b3) f3 = yy at *
  obtain ⟨x4, f4⟩ := yy
  dsimp only at HR HF
  go_wp2_with fail
  go_ret
  exact ⟨by rw [HY1.out]; try rfl, by rw [HY1.out]; exact HR.out, by rw [HY1.out]; exact HF.out, HO.out⟩
def fl0 : Fl := ⟨0, 0, 0, 0, 0, 0, 0, 0, 0, 0⟩
/-- Whether a string has the form of a time. -/
def timB (s : ByteArray) : Bool := !(formS (s, false) fl0).2.1.2 && decide (L (formS (s, false) fl0).2.1.1 = [])
abbrev tmZ : List Value := [.int .i64 0, .int .i64 0, .int .i64 0, .int .i64 0]
theorem stTm : StT Tryz.prog 25 4 := ⟨by kernel_rfl, by kernel_rfl⟩
theorem moTm : (Tryz.prog.info? 25).map (·.size) = some 4 := by kernel_rfl
theorem fits_tm : ∀ u ∈ tmZ, u.oneCell' = true := by
  intro u hu
  simp only [tmZ, List.mem_cons, List.not_mem_nil, or_false] at hu
  rcases hu with rfl | rfl | rfl | rfl <;> rfl
theorem row4 {w : World} {g : Nat} {t : TypeId} {a b c d : Value} (h : w.heap[g]? = some (.cells [a, b, c, d].toArray t (0, 0))) :
    w.cell? ⟨g, 0, none⟩ = some a ∧ w.cell? ⟨g, 1, none⟩ = some b ∧ w.cell? ⟨g, 2, none⟩ = some c ∧ w.cell? ⟨g, 3, none⟩ = some d :=
  ⟨(cell_of_row w g _ _ t (0, 0) h).trans rfl, (cell_of_row w g _ _ t (0, 0) h).trans rfl, (cell_of_row w g _ _ t (0, 0) h).trans rfl, (cell_of_row w g _ _ t (0, 0) h).trans rfl⟩
theorem ParseM_no (s : ByteArray) (w : World) (hs : s.size ≤ 1000000000) (hb : timB s = false) :
    Calls Tryz.prog 29 #[.string s] w fun e w' => e = .returned (.tuple #[.agg tmZ.toArray, .int .i64 3]) ∧ Below w.heap.size w w' := by
  have hm : s.size ≤ maxLen := by simp only [maxLen]; omega
  have HB := Lib.hid hb
  clear hb
  go_enter Tryz.func29, Tryz.ntmps29
  go_upto_region 3 with fail
  generalize hW1 : World.alloc w _ = w1
  obtain ⟨ha1, -, hz1, hb1⟩ := alloc_of hW1
  generalize hW2 : World.alloc w1 _ = w2
  obtain ⟨ha2, -, hz2, hb2⟩ := alloc_of hW2
  generalize hW3 : World.alloc w2 _ = w3
  obtain ⟨ha3, -, hz3, hb3⟩ := alloc_of hW3
  have e1 : w.heap.size + 1 = w1.heap.size := hz1.symm
  have e2 : w.heap.size + 1 + 1 = w2.heap.size := by omega
  have HR : Hid (RdA w3 (w.heap.size + 1) (s, false)) := by
    unfold Hid
    rw [e1]
    exact (hb3.block _ (by omega)).trans ha2
  have HF : Hid (FlA w3 (w.heap.size + 1 + 1) fl0) := by
    unfold Hid
    rw [e2]
    exact ha3
  have HX1 : Hid (w3.heap[w.heap.size]? = some (.cells tmZ.toArray 25 (0, 0))) := by
    unfold Hid
    exact (hb3.block _ (by omega)).trans ((hb2.block _ (by omega)).trans ha1)
  have HBW : Hid (Below w.heap.size w w3) := hb1.trans ((hb2.mono (by omega)).trans (hb3.mono (by omega)))
  have HZ3 : Hid (w3.heap.size = w.heap.size + 3) := by unfold Hid; omega
  clear hW1 hW2 hW3 ha1 ha2 ha3 hz1 hz2 hz3 hb1 hb2 hb3 e1 e2
  have hne : w.heap.size + 1 + 1 ≠ w.heap.size + 1 := by omega
  go_wp2_with fail
  refine (form_x (w.heap.size + 1) (w.heap.size + 1 + 1) (s, false) fl0 w3 hs hne HR.out HF.out).mono ?_
  rintro e w4 ⟨rfl, hr, hf, ho⟩
  replace HR := Lib.hid hr
  have HX : Hid (w4.heap[w.heap.size]? = some (.cells tmZ.toArray 25 (0, 0))) := (ho.o _ (by omega) (by omega)).trans HX1.out
  replace HBW := Lib.hid (HBW.out.trans (ho.b w.heap.size (by omega) (by omega)))
  clear hr hf ho HF HX1 HZ3
  have hT := HB.out
  unfold timB at hT
  clear HB
  generalize formS (s, false) fl0 = yy at *
  obtain ⟨kd, ⟨s4, b4⟩, f4⟩ := yy
  dsimp only at hT HR ⊢
  obtain ⟨c0, c1⟩ := HR.out.cells
  cases b4
  case true =>
    clear hT
    go_wp2_with (refine wpl_store rfl rfl moTm rfl rfl (cs := tmZ) rfl rfl fits_tm HX.out (Nat.le_of_ble_eq_true rfl) (row := tmZ) rfl ?_; generalize hW : World.setRow _ _ _ = w5; have HS := Lib.hid (setRow_of hW HX.out); clear hW)
    obtain ⟨hd5, -, hz5, hb5⟩ := HS.out
    obtain ⟨z0, z1, z2, z3⟩ := row4 hd5
    exact bodyPost_ret (v := .tuple #[.agg tmZ.toArray, .int .i64 3]) (by simp [results, Tryz.results29, go_sem, z0, z1, z2, z3]) rfl ⟨rfl, HBW.out.trans (hb5 _ (Nat.le_refl _))⟩
  case false =>
    have he : ¬ L s4 = [] := by simpa using hT
    have he1 : s4.toList.isEmpty = false := by rw [empty_L]; simpa using he
    clear hT he
    go_wp2_with (refine wpl_store rfl rfl moTm rfl rfl (cs := tmZ) rfl rfl fits_tm HX.out (Nat.le_of_ble_eq_true rfl) (row := tmZ) rfl ?_; generalize hW : World.setRow _ _ _ = w5; have HS := Lib.hid (setRow_of hW HX.out); clear hW)
    obtain ⟨hd5, -, hz5, hb5⟩ := HS.out
    obtain ⟨z0, z1, z2, z3⟩ := row4 hd5
    exact bodyPost_ret (v := .tuple #[.agg tmZ.toArray, .int .i64 3]) (by simp [results, Tryz.results29, go_sem, z0, z1, z2, z3]) rfl ⟨rfl, HBW.out.trans (hb5 _ (Nat.le_refl _))⟩
end Go.Proofs.YtlnpfpjncnkekaaGreatDoor

namespace Go.Proofs.YtlnpfpjncnkekaaGreatDoor
open Go.RowKit
set_option maxHeartbeats 2000000
set_option maxRecDepth 100000

/-- Whether a string begins as the form says; a d stands for a digit. -/
def likeB : List UInt8 → List UInt8 → Bool
  | _, [] => true
  | [], _ :: _ => false
  | c :: l, f :: t => (if f.toNat = 100 then dig c else decide (c.toNat = f.toNat)) && likeB l t
end Go.Proofs.YtlnpfpjncnkekaaGreatDoor

namespace Go.Proofs.YtlnpfpjncnkekaaGreatDoor
open Go.RowKit
set_option maxHeartbeats 600000
set_option maxRecDepth 100000

abbrev hmsF : ByteArray := ⟨#[100, 100, 58, 100, 100, 58, 100, 100]⟩
def zer9 : List UInt8 := [48, 48, 48, 48, 48, 48, 48, 48, 48]
/-- A time of day without its fraction: nanoseconds, whether it is one. -/
def hmsN (l : List UInt8) : Nat := ((valL 0 (l.take 2) * 60 + valL 0 ((l.drop 3).take 2)) * 60 + valL 0 ((l.drop 6).take 2)) * 1000000000
def hmsI (l : List UInt8) : Bool := decide (valL 0 (l.take 2) ≤ 23 ∧ valL 0 ((l.drop 3).take 2) ≤ 59 ∧ valL 0 ((l.drop 6).take 2) ≤ 59)
def noC : Nat × List UInt8 × Bool × Bool := (0, [], false, false)
/-- What takeClock hands back. -/
def tcR (l : List UInt8) : Nat × List UInt8 × Bool × Bool :=
  if likeB l (L hmsF) = false then noC
  else if (l.drop 8).head? = some 46 then
    (if runL (l.drop 9) < 1 ∨ 9 < runL (l.drop 9) then noC
     else (hmsN l + valL 0 (((l.drop 9).take (runL (l.drop 9)) ++ zer9).take 9), l.drop (9 + runL (l.drop 9)), true, hmsI l))
  else (hmsN l, l.drop 8, true, hmsI l)
theorem likeB_len : ∀ (l f : List UInt8), likeB l f = true → f.length ≤ l.length
  | _, [], _ => Nat.zero_le _
  | [], _ :: _, h => by cases h
  | c :: l, f :: t, h => by
    rw [likeB, Bool.and_eq_true] at h
    have := likeB_len l t h.2
    simp only [List.length_cons]
    omega
theorem hms_digs (l : List UInt8) (h : likeB l (L hmsF) = true) : 8 ≤ l.length ∧ (l.take 2).all dig = true ∧ ((l.drop 3).take 2).all dig = true ∧ ((l.drop 6).take 2).all dig = true ∧ l[2]? = some 58 ∧ l[5]? = some 58 := by
  have hlen := likeB_len _ _ h
  have hl8 : 8 ≤ l.length := hlen
  obtain ⟨a0, a1, a2, a3, a4, a5, a6, a7, t, rfl⟩ : ∃ a0 a1 a2 a3 a4 a5 a6 a7 t, l = a0 :: a1 :: a2 :: a3 :: a4 :: a5 :: a6 :: a7 :: t := by
    match l, hl8 with
    | a0 :: a1 :: a2 :: a3 :: a4 :: a5 :: a6 :: a7 :: t, _ => exact ⟨a0, a1, a2, a3, a4, a5, a6, a7, t, rfl⟩
  have h' : likeB (a0 :: a1 :: a2 :: a3 :: a4 :: a5 :: a6 :: a7 :: t) [100, 100, 58, 100, 100, 58, 100, 100] = true := h
  simp [likeB] at h'
  obtain ⟨h0, h1, h2, h3, h4, h5, h6, h7⟩ := h'
  have e2 : a2 = 58 := UInt8.toNat_inj.1 h2
  have e5 : a5 = 58 := UInt8.toNat_inj.1 h5
  refine ⟨hl8, ?_, ?_, ?_, ?_, ?_⟩
  · simp [h0, h1]
  · simp [h3, h4]
  · simp [h6, h7]
  · rw [e2]; rfl
  · rw [e5]; rfl
end Go.Proofs.YtlnpfpjncnkekaaGreatDoor

namespace Go.Proofs.YtlnpfpjncnkekaaGreatDoor
open Go.RowKit
set_option maxHeartbeats 2000000
set_option maxRecDepth 100000

abbrev plusF : ByteArray := ⟨#[43, 100, 100, 58, 100, 100]⟩
abbrev minF : ByteArray := ⟨#[45, 100, 100, 58, 100, 100]⟩
/-- What takeOffset hands back. -/
def toR (l : List UInt8) : Int × Bool × Bool :=
  if l = [90] ∨ l = [122] then (0, true, true)
  else if l.length ≠ 6 ∨ (likeB l (L plusF) = false ∧ likeB l (L minF) = false) then (0, false, false)
  else (if l.head? = some 45 then -((valL 0 ((l.drop 1).take 2) * 60 + valL 0 ((l.drop 4).take 2) : Nat) : Int) else ((valL 0 ((l.drop 1).take 2) * 60 + valL 0 ((l.drop 4).take 2) : Nat) : Int), true, decide (valL 0 ((l.drop 1).take 2) ≤ 23 ∧ valL 0 ((l.drop 4).take 2) ≤ 59))
theorem off_digs (l : List UInt8) (c : UInt8) (hc : c.toNat ≠ 100) (h : likeB l [c, 100, 100, 58, 100, 100] = true) : l.head? = some c ∧ ((l.drop 1).take 2).all dig = true ∧ l[3]? = some 58 ∧ ((l.drop 4).take 2).all dig = true := by
  have hl6 : 6 ≤ l.length := likeB_len _ _ h
  obtain ⟨a0, a1, a2, a3, a4, a5, t, rfl⟩ : ∃ a0 a1 a2 a3 a4 a5 t, l = a0 :: a1 :: a2 :: a3 :: a4 :: a5 :: t := by
    match l, hl6 with
    | a0 :: a1 :: a2 :: a3 :: a4 :: a5 :: t, _ => exact ⟨a0, a1, a2, a3, a4, a5, t, rfl⟩
  simp [likeB, hc] at h
  obtain ⟨h0, h1, h2, h3, h4, h5⟩ := h
  have e0 : a0 = c := UInt8.toNat_inj.1 h0
  have e3 : a3 = 58 := UInt8.toNat_inj.1 h3
  refine ⟨by rw [e0]; rfl, ?_, ?_, ?_⟩
  · simp [h1, h2]
  · rw [e3]; rfl
  · simp [h4, h5]
end Go.Proofs.YtlnpfpjncnkekaaGreatDoor

namespace Go.Proofs.YtlnpfpjncnkekaaGreatDoor
open Go.RowKit
set_option maxHeartbeats 1000000
set_option maxRecDepth 100000

theorem ret_bl {a b : Bool} (h : a = b) : Ending.returned (.bool a) = Ending.returned (.bool b) := by rw [h]
theorem valid4_any (y : Nat) (w : World) (hy : y ≤ 100000) :
    Calls Tryz.prog 163 #[.int .i64 (y : Int)] w fun e w' => e = .returned (.bool (decide (1 ≤ y ∧ y ≤ 9999))) ∧ w = w' := by
  by_cases h : 1 ≤ y ∧ y ≤ 9999
  · have h1 : (1 : Int) ≤ (y : Int) := by omega
    have h2 : (y : Int) ≤ 9999 := by omega
    rw [decide_eq_true h]
    clear h
    go_enter Tryz.func163, Tryz.ntmps163
    go_wp2_with fail
    go_ret
    exact ⟨rfl, rfl⟩
  · rw [decide_eq_false h]
    by_cases h1 : 1 ≤ y
    · have g1 : ((1 : Int) ≤ (y : Int)) = True := eq_true (by omega)
      have g2 : ((y : Int) ≤ 9999) = False := eq_false (by omega)
      clear h h1
      go_enter Tryz.func163, Tryz.ntmps163
      go_wp2_with fail
      go_ret
      exact ⟨rfl, rfl⟩
    · obtain rfl : y = 0 := by omega
      clear h h1
      go_enter Tryz.func163, Tryz.ntmps163
      go_wp2_with fail
      go_ret
      exact ⟨rfl, rfl⟩
def leapB (y : Nat) : Bool := decide (1 ≤ y ∧ y ≤ 9999) && (decide (y % 4 = 0) && (!decide (y % 100 = 0) || decide (y % 400 = 0)))
theorem Leap_any (y : Nat) (w : World) (hy : y ≤ 100000) :
    Calls Tryz.prog 164 #[.int .i64 (y : Int)] w fun e w' => e = .returned (.bool (leapB y)) ∧ w = w' := by
  have HV := Lib.hid (fun w' => valid4_any y w' hy)
  unfold leapB
  cases hv : decide (1 ≤ y ∧ y ≤ 9999)
  case false =>
    rw [hv] at HV
    clear hv
    go_enter Tryz.func164, Tryz.ntmps164
    go_wp2_with (go_at_call 163; refine (HV.out _).mono ?_; rintro e w' ⟨rfl, rfl⟩)
    go_ret
    exact ⟨rfl, rfl⟩
  rw [hv] at HV
  clear hv
  go_enter Tryz.func164, Tryz.ntmps164
  go_wp2_with (go_at_call 163; refine (HV.out _).mono ?_; rintro e w' ⟨rfl, rfl⟩)
  all_goals
    go_ret
    refine ⟨ret_bl ?_, rfl⟩
    rw [Bool.eq_iff_iff]
    simp at *
    omega
/-- The days of a month. -/
def monC (y m : Nat) : Nat :=
  if decide (1 ≤ y ∧ y ≤ 9999) = false then 0
  else match m with
    | 1 => 31 | 2 => if leapB y then 29 else 28 | 3 => 31 | 4 => 30 | 5 => 31 | 6 => 30 | 7 => 31 | 8 => 31 | 9 => 30 | 10 => 31 | 11 => 30 | 12 => 31
    | _ => 0
theorem monC_le (y m : Nat) : monC y m ≤ 31 := by
  unfold monC
  split
  · omega
  · split
    all_goals first | omega | (split <;> omega)
theorem mon_cases (m : Nat) : m = 1 ∨ m = 2 ∨ m = 3 ∨ m = 4 ∨ m = 5 ∨ m = 6 ∨ m = 7 ∨ m = 8 ∨ m = 9 ∨ m = 10 ∨ m = 11 ∨ m = 12 ∨ m = 0 ∨ 12 < m := by omega
theorem Month_any (y m : Nat) (w : World) (hy : y ≤ 100000) (_hm : m ≤ 100000) :
    Calls Tryz.prog 125 #[.int .i64 (y : Int), .int .i64 (m : Int)] w fun e w' => e = .returned (.int .i64 (monC y m : Nat)) ∧ Below w.heap.size w w' := by
  have HV := Lib.hid (fun w' => valid4_any y w' hy)
  have HL := Lib.hid (fun w' => Leap_any y w' hy)
  have HB : Hid (∀ X, Below w.heap.size w (w.alloc X)) := fun X => (Below.refl _ _).alloc (Nat.le_refl _) _
  have HR := Lib.hid (Below.refl w.heap.size w)
  obtain ⟨r, hr⟩ : ∃ r, r = monC y m := ⟨_, rfl⟩
  rw [← hr]
  unfold monC at hr
  generalize leapB y = lp at *
  cases hv : decide (1 ≤ y ∧ y ≤ 9999)
  case false =>
    rw [hv] at HV hr
    have HF : Hid (r = 0) := by unfold Hid; rw [hr, if_pos rfl]
    clear hv hr
    go_enter Tryz.func125, Tryz.ntmps125
    go_wp2_with (go_at_call 163; refine (HV.out _).mono ?_; rintro e w' ⟨rfl, rfl⟩)
    go_ret
    exact ⟨by rw [HF.out]; rfl, HR.out⟩
  rw [hv] at HV hr
  rw [if_neg (by simp)] at hr
  clear hv hy _hm
  rcases mon_cases m with rfl | rfl | rfl | rfl | rfl | rfl | rfl | rfl | rfl | rfl | rfl | rfl | rfl | h
  case inr.inl =>
    cases lp
    all_goals
      have HF : Hid (r = _) := hr
      clear hr
      go_enter Tryz.func125, Tryz.ntmps125
      go_wp2_with (first
        | (go_at_call 163; refine (HV.out _).mono ?_; rintro e w' ⟨rfl, rfl⟩)
        | (go_at_call 164; refine (HL.out _).mono ?_; rintro e w' ⟨rfl, rfl⟩))
      go_ret
      exact ⟨by rw [HF.out]; rfl, by first | exact HR.out | exact HB.out _⟩
  case inr.inr.inr.inr.inr.inr.inr.inr.inr.inr.inr.inr.inr =>
    have HF : Hid (r = 0) := by
      unfold Hid
      rw [hr]
      split <;> first | omega | rfl
    have g1 : ((12 : Int) < (m : Int)) = True := eq_true (by omega)
    have g2 : ((m : Int) < 1) = False := eq_false (by omega)
    clear hr h
    go_enter Tryz.func125, Tryz.ntmps125
    go_wp2_with (go_at_call 163; refine (HV.out _).mono ?_; rintro e w' ⟨rfl, rfl⟩)
    go_ret
    exact ⟨by rw [HF.out]; rfl, HR.out⟩
  all_goals
    have HF : Hid (r = _) := hr
    clear hr
    go_enter Tryz.func125, Tryz.ntmps125
    go_wp2_with (first
      | (go_at_call 163; refine (HV.out _).mono ?_; rintro e w' ⟨rfl, rfl⟩)
      | (go_at_call 164; refine (HL.out _).mono ?_; rintro e w' ⟨rfl, rfl⟩))
    go_ret
    exact ⟨by rw [HF.out]; rfl, by first | exact HR.out | exact HB.out _⟩
def startC (y : Nat) : Nat := 365 * (y - 1) + (y - 1) / 4 - (y - 1) / 100 + (y - 1) / 400
theorem start_any (y : Nat) (w : World) (h1 : 1 ≤ y) (hy : y ≤ 9999) :
    Calls Tryz.prog 126 #[.int .i64 (y : Int)] w fun e w' => e = .returned (.int .i64 (startC y : Nat)) ∧ w = w' := by
  have g1 : (1 : Int) ≤ (y : Int) := by omega
  have g2 : (y : Int) ≤ 9999 := by omega
  have HF : Hid ((365 * ((y : Int) - 1) + ((y : Int) - 1) / 4 - ((y : Int) - 1) / 100 + ((y : Int) - 1) / 400) = (startC y : Nat)) := by
    unfold Hid startC
    omega
  clear h1 hy
  go_enter Tryz.func126, Tryz.ntmps126
  go_wp2_with fail
  go_ret
  refine ⟨?_, rfl⟩
  rw [← HF.out]

  rfl
end Go.Proofs.YtlnpfpjncnkekaaGreatDoor

namespace Go.Proofs.YtlnpfpjncnkekaaGreatDoor
open Go.RowKit
set_option maxHeartbeats 1000000
set_option maxRecDepth 100000

/-- The days of the first k months. -/
def sumM (y : Nat) : Nat → Nat
  | 0 => 0
  | k + 1 => sumM y k + monC y (k + 1)
theorem sumM_le (y : Nat) : ∀ k, sumM y k ≤ 31 * k
  | 0 => Nat.le_refl _
  | k + 1 => by
    have h1 := sumM_le y k
    have h2 := monC_le y (k + 1)
    rw [sumM]
    omega
def dayC (y m d : Nat) : Nat × Nat := if d < 1 ∨ monC y m < d then (0, 2) else (startC y + d - 1 + sumM y (m - 1), 0)
theorem monC_pos {y m : Nat} (h : 0 < monC y m) : (1 ≤ y ∧ y ≤ 9999) ∧ 1 ≤ m ∧ m ≤ 12 := by
  unfold monC at h
  split at h
  · omega
  · rename_i hv
    have hv' : 1 ≤ y ∧ y ≤ 9999 := by
      cases hd : decide (1 ≤ y ∧ y ≤ 9999)
      · exact absurd hd hv
      · exact of_decide_eq_true hd
    refine ⟨hv', ?_⟩
    split at h
    all_goals first | omega | exact ⟨by decide, by decide⟩
theorem startC_le (y : Nat) (h : y ≤ 9999) : startC y ≤ 4000000 := by unfold startC; omega
theorem rii2 {a b : Nat} {x : Nat × Nat} (h : x = (a, b)) : Ending.returned (.tuple #[.int .i64 (a : Nat), .int .i64 (b : Nat)]) = Ending.returned (.tuple #[.int .i64 (x.1 : Nat), .int .i64 (x.2 : Nat)]) := by rw [h]
theorem Day_any (y m d : Nat) (w : World) (hy : y ≤ 9999) (hm : m ≤ 99999) (hd : d ≤ 99999) :
    Calls Tryz.prog 74 #[.int .i64 (y : Int), .int .i64 (m : Int), .int .i64 (d : Int)] w fun e w' => e = .returned (.tuple #[.int .i64 ((dayC y m d).1 : Nat), .int .i64 ((dayC y m d).2 : Nat)]) ∧ Below w.heap.size w w' := by
  have HM := Lib.hid (fun k w' hk => Month_any y k w' (by omega) hk)
  obtain ⟨r, hr⟩ : ∃ r, r = dayC y m d := ⟨_, rfl⟩
  rw [← hr]
  unfold dayC at hr
  have hml := monC_le y m
  by_cases h1 : d < 1
  · obtain rfl : d = 0 := by omega
    have HF : Hid (r = (0, 2)) := by unfold Hid; rw [hr, if_pos (.inl h1)]
    clear hr h1
    go_enter Tryz.func74, Tryz.ntmps74
    go_wp2_with fail
    go_ret2
    exact ⟨rii2 HF.out, Below.refl _ _⟩
  have g1 : ((d : Int) < 1) = False := eq_false (by omega)
  have HMM := Lib.hid (fun w' => HM.out m w' (by omega))
  by_cases h2 : monC y m < d
  · have HF : Hid (r = (0, 2)) := by unfold Hid; rw [hr, if_pos (.inr h2)]
    have g2 : ((monC y m : Nat) : Int) < (d : Int) := by omega
    clear hr h1
    go_enter Tryz.func74, Tryz.ntmps74
    go_wp2_with (go_at_call 125; refine (HMM.out _).mono ?_; rintro e w1 ⟨rfl, hb1⟩; have HB1 := Lib.hid hb1; clear hb1)
    go_ret2
    exact ⟨rii2 HF.out, HB1.out⟩
  have g2 : (((monC y m : Nat) : Int) < (d : Int)) = False := eq_false (by omega)
  obtain ⟨⟨hy1, hy2⟩, hm1, hm2⟩ := monC_pos (y := y) (m := m) (by omega)
  have HS := Lib.hid (fun w' => start_any y w' hy1 hy2)
  have HF : Hid (r = (startC y + d - 1 + sumM y (m - 1), 0)) := by unfold Hid; rw [hr, if_neg (by omega)]
  have hsl := startC_le y hy2
  have hsm := fun k => sumM_le y k
  have HSM := Lib.hid hsm
  have hd1 : (1 : Int) ≤ (d : Int) := by omega
  clear hr h1 h2 hsm
  generalize startC y = sc at *
  go_enter Tryz.func74, Tryz.ntmps74
  go_wp2_with (first
    | (go_at_call 125; refine (HMM.out _).mono ?_; rintro e w1 ⟨rfl, hb1⟩; have HB1 := Lib.hid hb1; clear hb1)
    | (go_at_call 126; refine (HS.out _).mono ?_; rintro e w' ⟨rfl, rfl⟩))
  have HX : Hid ((sc : Int) + (d : Int) - 1 = ((sc + d - 1 : Nat) : Int)) := by unfold Hid; omega
  clear g2 HMM
  go_loopw [8, 9] (fun nv iv wr => ∃ k : Nat, iv = .int .i64 (k : Int) ∧ 1 ≤ k ∧ k ≤ m ∧ nv = .int .i64 ((sc + d - 1 + sumM y (k - 1) : Nat) : Int) ∧ Hid (Below w.heap.size w wr)) (fun _ iv _ => m - (intOf iv).toNat)
  case atStart => exact ⟨1, rfl, Nat.le_refl _, hm1, congrArg (Value.int .i64) (by have := HX.out; show _ = ((sc + d - 1 + 0 : Nat) : Int); omega), HB1.out⟩
  case round =>
    obtain ⟨k, rfl, hk1, hkm, rfl, HBW⟩ := hrel
    have hk0 : (0 : Int) ≤ (k : Int) := by omega
    by_cases hlt : k < m
    case neg =>
      obtain rfl : k = m := by omega
      clear HX
      go_wp2_with fail
      go_ret2
      exact ⟨rii2 HF.out, HBW.out⟩
    have gk : (k : Int) < (m : Int) := by omega
    have HMK := Lib.hid (fun w' => HM.out k w' (by omega))
    have hsk := HSM.out (k - 1)
    have hmk := monC_le y k
    have HST : Hid (sumM y (k - 1) + monC y k = sumM y (k + 1 - 1)) := by
      unfold Hid
      obtain ⟨j, rfl⟩ : ∃ j, k = j + 1 := ⟨k - 1, by omega⟩
      rfl
    generalize monC y k = mk at *
    generalize sumM y (k - 1) = sk at *
    obtain ⟨N, hN⟩ : ∃ N, N = sc + d - 1 + sk := ⟨_, rfl⟩
    have hNb : (N : Int) ≤ 100000000 := by omega
    rw [← hN]
    have HNN := Lib.hid hN
    clear hN hsk HX
    go_wp2_with (go_at_call 125; refine (HMK.out _).mono ?_; rintro e w2 ⟨rfl, hb2⟩; have HB2 := Lib.hid (HBW.out.trans (hb2.mono HBW.out.size)); clear hb2)
    exact ⟨⟨k + 1, by go_num, by omega, by omega, congrArg (Value.int .i64) (by have h5 := HNN.out; have h6 := HST.out; omega), HB2.out⟩, by simp [intOf]; omega⟩
end Go.Proofs.YtlnpfpjncnkekaaGreatDoor

namespace Go.Proofs.YtlnpfpjncnkekaaGreatDoor
open Go.RowKit
set_option maxHeartbeats 2000000
set_option maxRecDepth 100000

theorem ds4 (y : Nat) (h : 1 ≤ y) : y / 4 = (y - 1) / 4 + (if y % 4 = 0 then 1 else 0) := by split <;> omega
theorem ds100 (y : Nat) (h : 1 ≤ y) : y / 100 = (y - 1) / 100 + (if y % 100 = 0 then 1 else 0) := by split <;> omega
theorem ds400 (y : Nat) (h : 1 ≤ y) : y / 400 = (y - 1) / 400 + (if y % 400 = 0 then 1 else 0) := by split <;> omega
theorem sum12 (y : Nat) (h1 : 1 ≤ y) (h2 : y ≤ 9999) : sumM y 12 = if leapB y then 366 else 365 := by
  have hv : decide (1 ≤ y ∧ y ≤ 9999) = true := decide_eq_true ⟨h1, h2⟩
  have e : ∀ k, monC y k = (match k with
    | 1 => 31 | 2 => if leapB y then 29 else 28 | 3 => 31 | 4 => 30 | 5 => 31 | 6 => 30 | 7 => 31 | 8 => 31 | 9 => 30 | 10 => 31 | 11 => 30 | 12 => 31
    | _ => 0) := fun k => by unfold monC; exact if_neg (by rw [hv]; simp)
  have e1 : sumM y 12 = ((((((((((((0 + monC y 1) + monC y 2) + monC y 3) + monC y 4) + monC y 5) + monC y 6) + monC y 7) + monC y 8) + monC y 9) + monC y 10) + monC y 11) + monC y 12) := rfl
  rw [e1, e 1, e 2, e 3, e 4, e 5, e 6, e 7, e 8, e 9, e 10, e 11, e 12]
  cases leapB y <;> rfl
theorem len_year (y : Nat) (h1 : 1 ≤ y) (h2 : y ≤ 9999) : startC (y + 1) = startC y + sumM y 12 := by
  rw [sum12 y h1 h2]
  have hl : leapB y = (decide (y % 4 = 0) && (!decide (y % 100 = 0) || decide (y % 400 = 0))) := by
    unfold leapB
    rw [decide_eq_true (show 1 ≤ y ∧ y ≤ 9999 from ⟨h1, h2⟩), Bool.true_and]
  rw [hl]
  unfold startC
  rw [Nat.add_sub_cancel, ds4 y h1, ds100 y h1, ds400 y h1]
  have i1 : y % 100 = 0 → y % 4 = 0 := by omega
  have i2 : y % 400 = 0 → y % 100 = 0 := by omega
  have q : (y - 1) / 100 ≤ (y - 1) / 4 := by omega
  have hy : 365 * y = 365 * (y - 1) + 365 := by omega
  rw [hy]
  generalize (y - 1) / 4 = a at *
  generalize (y - 1) / 100 = b at *
  generalize (y - 1) / 400 = c at *
  generalize 365 * (y - 1) = n at *
  by_cases c4 : y % 4 = 0 <;> by_cases c100 : y % 100 = 0 <;> by_cases c400 : y % 400 = 0 <;> simp only [c4, c100, c400, if_true, if_false, decide_true, decide_false, Bool.not_true, Bool.not_false, Bool.and_true, Bool.and_false, Bool.or_true, Bool.or_false, Bool.false_eq_true] <;> first | omega | exact absurd (i1 c100) c4 | exact absurd (i2 c400) c100
end Go.Proofs.YtlnpfpjncnkekaaGreatDoor
