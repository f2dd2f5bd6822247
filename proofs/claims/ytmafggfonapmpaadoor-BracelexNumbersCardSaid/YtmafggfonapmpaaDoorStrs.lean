/- Go's strings.IndexByte, HasPrefix, TrimPrefix, walked. Conditions: strings of at most maxLen bytes. -/
import Derived.Test.YtmafggfonapmpaaDoorStr
import Derived.WalkSpells
import Derived.WalkLawsBesides
import Derived.Lib.Bytealg
namespace Go.Proofs.YtmafggfonapmpaaDoor
open Go.RowKit
set_option maxHeartbeats 1000000
set_option maxRecDepth 100000

theorem run_index (s : ByteArray) (c : UInt8) (w : World) : (callFunc 62 #[.string s, .int .u8 c.toNat]).run Tryd.prog w = .ok (.value (.int .i64 (Lib.indexByte (L s) c))) w := by
  rw [run_callFunc_extern Tryd.func62 (by kernel_rfl) (by kernel_rfl) (by kernel_rfl) (e := Extern.BytealgIndexByte.indexByte) (by kernel_rfl), Lib.run_indexByteString]
  simp [L]
theorem IndexByte_any (s : ByteArray) (c : UInt8) (w : World) :
    Calls Tryd.prog 34 #[.string s, .int .u8 c.toNat] w fun e w' => e = .returned (.int .i64 (Lib.indexByte (L s) c)) ∧ w = w' := by
  have hi := fun w => run_index s c w
  go_enter Tryd.func34, Tryd.ntmps34
  go_wp2
  go_ret
  exact ⟨rfl, rfl⟩

/-- Does l begin with p? -/
def pre (l p : List UInt8) : Bool := l.take p.length == p
theorem pre_yes {s p : ByteArray} (h : pre (L s) (L p) = true) : p.size ≤ s.size := by
  have h1 : (L s).take (L p).length = L p := by simpa [pre] using h
  have := congrArg List.length h1
  rw [List.length_take, L_len, L_len] at this
  omega
theorem HasPrefix_lite (s p : ByteArray) (w : World) (_hs : s.size ≤ maxLen) (_hp : p.size ≤ maxLen) :
    Calls Tryd.prog 41 #[.string s, .string p] w fun e w' => e = .returned (.bool (pre (L s) (L p))) ∧ w = w' := by
  unfold maxLen at _hs _hp
  by_cases h : p.size ≤ s.size
  · have h' : (p.size : Int) ≤ s.size := by omega
    have he : pre (L s) (L p) = ((s.extract 0 p.size).toList == p.toList) := by
      rw [toList_L, toList_L, L_upto]
      unfold pre
      rw [L_len]
    have HE := Lib.hid he; clear he
    go_enter Tryd.func41, Tryd.ntmps41
    go_wp2_with fail
    go_ret
    exact ⟨by rw [HE.out]; rfl, rfl⟩
  · have h' : ¬ (p.size : Int) ≤ s.size := by omega
    have he : pre (L s) (L p) = false := by
      cases hb : pre (L s) (L p)
      · rfl
      · exact absurd (pre_yes hb) h
    have HE := Lib.hid he; clear he
    go_enter Tryd.func41, Tryd.ntmps41
    go_wp2_with fail
    go_ret
    exact ⟨by rw [HE.out]; rfl, rfl⟩
theorem HasPrefix_any (s p : ByteArray) (w : World) (hs : s.size ≤ maxLen) (hp : p.size ≤ maxLen) :
    Calls Tryd.prog 23 #[.string s, .string p] w fun e w' => e = .returned (.bool (pre (L s) (L p))) ∧ w = w' := by
  go_enter Tryd.func23, Tryd.ntmps23
  go_wp2_with fail
  refine (HasPrefix_lite s p _ hs hp).mono ?_
  rintro e w' ⟨rfl, rfl⟩
  go_wp2_with fail
  go_ret
  exact ⟨rfl, rfl⟩
/-- s without the prefix p, if it has it. -/
def trimP (s p : ByteArray) : ByteArray := if pre (L s) (L p) then s.extract p.size s.size else s
theorem trimP_yes {s p : ByteArray} (h : pre (L s) (L p) = true) : trimP s p = s.extract p.size s.size := by unfold trimP; rw [if_pos h]
theorem trimP_no {s p : ByteArray} (h : pre (L s) (L p) = false) : trimP s p = s := by unfold trimP; rw [h]; rfl
theorem L_trimP (s p : ByteArray) : L (trimP s p) = if pre (L s) (L p) then (L s).drop p.size else L s := by
  unfold trimP
  split
  · exact L_from s _
  · rfl
theorem TrimPrefix_lite (s p : ByteArray) (w : World) (hs : s.size ≤ maxLen) (hp : p.size ≤ maxLen) :
    Calls Tryd.prog 40 #[.string s, .string p] w fun e w' => e = .returned (.string (trimP s p)) ∧ w = w' := by
  by_cases hb : pre (L s) (L p) = true
  · have hle := pre_yes hb
    have HT := Lib.hid (trimP_yes hb)
    have hle' : (p.size : Int) ≤ s.size := by omega
    go_enter Tryd.func40, Tryd.ntmps40
    go_wp2_with fail
    refine (HasPrefix_lite s p _ hs hp).mono ?_
    rintro e w' ⟨rfl, rfl⟩
    unfold maxLen at hs hp
    go_wp2_with fail
    go_ret
    exact ⟨by rw [HT.out]; rfl, rfl⟩
  · have hb' : pre (L s) (L p) = false := by simpa using hb
    have HT := Lib.hid (trimP_no hb')
    go_enter Tryd.func40, Tryd.ntmps40
    go_wp2_with fail
    refine (HasPrefix_lite s p _ hs hp).mono ?_
    rintro e w' ⟨rfl, rfl⟩
    go_wp2_with fail
    go_ret
    exact ⟨by rw [HT.out]; rfl, rfl⟩
theorem TrimPrefix_any (s p : ByteArray) (w : World) (hs : s.size ≤ maxLen) (hp : p.size ≤ maxLen) :
    Calls Tryd.prog 21 #[.string s, .string p] w fun e w' => e = .returned (.string (trimP s p)) ∧ w = w' := by
  go_enter Tryd.func21, Tryd.ntmps21
  go_wp2_with fail
  refine (TrimPrefix_lite s p _ hs hp).mono ?_
  rintro e w' ⟨rfl, rfl⟩
  go_wp2_with fail
  go_ret
  exact ⟨rfl, rfl⟩
end Go.Proofs.YtmafggfonapmpaaDoor
