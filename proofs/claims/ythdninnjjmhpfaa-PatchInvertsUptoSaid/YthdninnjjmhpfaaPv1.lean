/- The packages utf, path and datakitref08, walked: Len, Valid; letters and names. Conditions: strings of at most 2^47 bytes. -/
import Derived.Test.YthdninnjjmhpfaaPa1
import Derived.Test.YthdninnjjmhpfaaRf3c
import Derived.Test.YthdninnjjmhpfaaUtf
namespace Go.Proofs.Ythdninnjjmhpfaa
open Go.RowKit
set_option maxHeartbeats 1000000
set_option maxRecDepth 100000

def vErr (l : List UInt8) : Nat := if validL l then 0 else 5
/-! Names. -/
theorem ret_bool {a b : Bool} (h : a = b) : Ending.returned (.bool a) = Ending.returned (.bool b) := by rw [h]
def ltr (b : UInt8) : Bool := nmc b || dig b
theorem nmL_all (s : ByteArray) : Hid (nmL (L s) = nmL ((L s).drop 0)) := rfl
theorem folL_first (l : List UInt8) : folL l = match l with
  | [] => 0
  | b :: t => if nmc b then nmL t + 1 else 0 := rfl
/-- The bytes at which the program's loop goes on. -/
theorem fol_steps (s : ByteArray) (k : Nat) (h : Hid (folL (L s) = if k = 0 then folL (L s) else k + nmL ((L s).drop k))) (hk : k < s.size) :
    (nmc s[k] = true ∨ (0 < k ∧ dig s[k] = true) → Hid (folL (L s) = (k + 1) + nmL ((L s).drop (k + 1)))) ∧ (nmc s[k] = false → (k = 0 ∨ dig s[k] = false) → Hid (folL (L s) = k)) := by
  have hd := L_drop s k hk
  by_cases h0 : k = 0
  · subst h0
    rw [List.drop_zero] at hd
    constructor
    · rintro (h1 | ⟨h1, _⟩)
      · unfold Hid
        rw [congrArg folL hd, folL_first]
        simp only []
        rw [if_pos h1]
        omega
      · omega
    · intro h1 _
      unfold Hid
      rw [congrArg folL hd, folL_first]
      simp only []
      rw [h1]
      rfl
  · have h' := h.out
    rw [if_neg h0] at h'
    constructor
    · intro h1
      unfold Hid
      rw [h', hd, nmL, if_pos (by rcases h1 with h1 | ⟨_, h1⟩ <;> simp [h1])]
      omega
    · intro h1 h2
      unfold Hid
      rw [h', hd, nmL, if_neg]
      · rfl
      · rcases h2 with h2 | h2
        · omega
        · simp [h1, h2]
def nameR (l : List UInt8) : Bool := decide (l ≠ [] ∧ nmL l = l.length ∧ ∀ b ∈ l.head?, dig b = false)
theorem name_same (l : List UInt8) : nameR l = isName l := by
  rcases l with _ | ⟨b, t⟩
  · rfl
  unfold nameR isName
  rw [folL_first]
  simp only [nmL, List.length_cons, List.head?_cons, Option.mem_def, Option.some.injEq, forall_eq', decide_eq_decide]
  have hx : nmc b = true → dig b = false := by
    unfold nmc alpha dig
    simp only [Bool.or_eq_true, decide_eq_true_eq, decide_eq_false_iff_not]
    omega
  cases h1 : nmc b <;> cases h2 : dig b <;> simp_all
end Go.Proofs.Ythdninnjjmhpfaa
