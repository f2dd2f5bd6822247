/- datakitref01.Digits, Valid, Zeros, datakitref02.Valid, datakitref05.Valid walked. Conditions: none. -/
import Derived.Test.YtlnpfpjncnkekaaGreatDoorZt17
import Derived.Test.YtlnpfpjncnkekaaGreatDoorZt12
import Derived.Test.YtlnpfpjncnkekaaGreatDoorZt3
import Derived.Test.YtlnpfpjncnkekaaGreatDoorZt7
import Derived.BigGuardPart
import Derived.Deep.DeepCutAuto
import Derived.Deep.CutBlock
namespace Go.Proofs.YtlnpfpjncnkekaaGreatDoor
open Go.RowKit
set_option maxRecDepth 100000
set_option maxHeartbeats 1000000

/-- A decimal in normal form. -/
def decB (neg : Bool) (l : List UInt8) (e : Int) : Bool :=
  if l = [] then !neg && decide (e = 0) else decide (l.length ≤ 120) && (natB l && (decide (tz l = 0) && decide (-400 ≤ e ∧ e ≤ 400)))
def timeB (k d n o : Int) : Bool :=
  decide (1 ≤ k ∧ k ≤ 4 ∧ 0 ≤ d ∧ d ≤ 3652058 ∧ 0 ≤ n ∧ n ≤ 86399999999999 ∧ -1439 ≤ o ∧ o ≤ 1439 ∧ (k = 1 ∨ k = 3 ∨ k = 4 ∨ d = 0) ∧ (k = 2 ∨ k = 3 ∨ k = 4 ∨ n = 0) ∧ (k = 4 ∨ o = 0))
/-- Are the parts that the kind does not have zero? -/
def ownB (h : Hd) (nl nf : Nat) : Bool :=
  decide (0 ≤ h.kind ∧ h.kind ≤ 7 ∧ (h.kind = 1 ∨ h.bool = false) ∧ (h.kind = 2 ∨ (h.neg = false ∧ h.ds.size = 0 ∧ h.exp = 0)) ∧ (h.kind = 3 ∨ (h.tk = 0 ∧ h.day = 0 ∧ h.nano = 0 ∧ h.off = 0)) ∧
    (h.kind = 4 ∨ h.text.size = 0) ∧ (h.kind = 5 ∨ h.bytes.length = 0) ∧ (h.kind = 6 ∨ nl = 0) ∧ (h.kind = 7 ∨ nf = 0))
/-- What is wrong with the keys: those before, those to come. -/
def keysE : List ByteArray → List ByteArray → Nat
  | _, [] => 0
  | seen, k :: t => if validL (L k) = false then 5 else if 1024 < k.size then 10 else if seen.any (fun x => decide (L x = L k)) = true then 8 else keysE (seen ++ [k]) t
/-- What is wrong with a value itself. -/
def oneE (h : Hd) (nl : Nat) (ks : List ByteArray) : Nat :=
  if ownB h nl ks.length = false then 6
  else if decB h.neg (L h.ds) h.exp = false ∨ (h.kind = 3 ∧ timeB h.tk h.day h.nano h.off = false) then 2
  else if validL (L h.text) = false then 5
  else if 65536 < h.text.size ∨ 65536 < h.bytes.length then 10
  else keysE [] ks
mutual
def lookV : V → Int → Int → Int × Nat
  | .mk h l f, d, s =>
    if 48 < d then (s, 9) else if 65536 ≤ s then (s, 10) else if oneE h l.length (f.map (·.1)) ≠ 0 then (s, oneE h l.length (f.map (·.1)))
    else if h.kind = 7 then lookF f (d + 1) (s + 1) else lookL l (d + 1) (s + 1)
def lookL : List V → Int → Int → Int × Nat
  | [], _, s => (s, 0)
  | x :: t, d, s => if (lookV x d s).2 ≠ 0 then lookV x d s else lookL t d (lookV x d s).1
def lookF : List (ByteArray × V) → Int → Int → Int × Nat
  | [], _, s => (s, 0)
  | (_, x) :: t, d, s => if (lookV x d s).2 ≠ 0 then lookV x d s else lookF t d (lookV x d s).1
end
theorem lookF_map : ∀ (f : List (ByteArray × V)) (d s : Int), lookF f d s = lookL (f.map (·.2)) d s
  | [], _, _ => by rw [List.map_nil, lookF, lookL]
  | (_, x) :: t, d, s => by rw [List.map_cons, lookF, lookL, lookF_map t]
/-- The values directly in a value. -/
def kidsV : V → List V
  | .mk h l f => if h.kind = 7 then f.map (·.2) else l
theorem lookV_mk (h : Hd) (l : List V) (f : List (ByteArray × V)) (d s : Int) : lookV (.mk h l f) d s =
    if 48 < d then (s, 9) else if 65536 ≤ s then (s, 10) else if oneE h l.length (f.map (·.1)) ≠ 0 then (s, oneE h l.length (f.map (·.1))) else lookL (kidsV (.mk h l f)) (d + 1) (s + 1) := by
  rw [lookV, kidsV]
  split
  · rfl
  split
  · rfl
  split
  · rfl
  split
  · exact lookF_map _ _ _
  · rfl
def checkV (v : V) : Nat := (lookV v 1 0).2
theorem lookL_drop (l : List V) (k : Nat) (h : k < l.length) (d s : Int) : lookL (l.drop k) d s = if (lookV l[k] d s).2 ≠ 0 then lookV l[k] d s else lookL (l.drop (k + 1)) d (lookV l[k] d s).1 := by
  rw [List.drop_eq_getElem_cons h, lookL]
theorem sz_kid (v : V) (i : Nat) (hi : i < (kidsV v).length) : SizeOf.sizeOf (kidsV v)[i] < SizeOf.sizeOf v := by
  obtain ⟨h, l, f⟩ := v
  have key : ∀ (x : V), x ∈ kidsV (.mk h l f) → SizeOf.sizeOf x < SizeOf.sizeOf (V.mk h l f) := by
    intro x hx
    rw [kidsV] at hx
    split at hx
    · obtain ⟨y, hy, rfl⟩ := List.mem_map.1 hx
      obtain ⟨j, hj, rfl⟩ := List.getElem_of_mem hy
      exact sz_f h l f j hj
    · obtain ⟨j, hj, rfl⟩ := List.getElem_of_mem hx
      exact sz_l h l f j hj
  exact key _ (List.getElem_mem hi)
/-- How the count grows. -/
theorem lookV_bd : ∀ (n : Nat) (v : V) (d s : Int), SizeOf.sizeOf v ≤ n → s ≤ (lookV v d s).1 ∧ ((lookV v d s).1 ≤ 65536 ∨ (lookV v d s).1 = s) := by
  intro n
  induction n with
  | zero => intro v d s hn; exfalso; cases v; rw [V.mk.sizeOf_spec] at hn; omega
  | succ n ih =>
    intro v d s hn
    have hl : ∀ (t : List V) (d s : Int), (∀ x ∈ t, SizeOf.sizeOf x ≤ n) → s ≤ (lookL t d s).1 ∧ ((lookL t d s).1 ≤ 65536 ∨ (lookL t d s).1 = s) := by
      intro t
      induction t with
      | nil => intro d s _; rw [lookL]; exact ⟨Int.le_refl _, .inr rfl⟩
      | cons x t iht =>
        intro d s hs
        have h1 := ih x d s (hs x (by simp))
        rw [lookL]
        split
        · exact h1
        · have h2 := iht d (lookV x d s).1 (fun y hy => hs y (by simp [hy]))
          omega
    have hk := hl (kidsV v)
    have hz := sz_kid v
    obtain ⟨h, l, f⟩ := v
    rw [lookV_mk]
    split
    · exact ⟨Int.le_refl _, .inr rfl⟩
    split
    · exact ⟨Int.le_refl _, .inr rfl⟩
    split
    · exact ⟨Int.le_refl _, .inr rfl⟩
    · have := hk (d + 1) (s + 1) (fun x hx => by
        obtain ⟨j, hj, rfl⟩ := List.getElem_of_mem hx
        have := hz j hj
        omega)
      omega
end Go.Proofs.YtlnpfpjncnkekaaGreatDoor

namespace Go.Proofs.YtlnpfpjncnkekaaGreatDoor
open Go.RowKit
set_option maxHeartbeats 1000000
set_option maxRecDepth 100000

theorem dated5_any (k : Int) (w : World) :
    Calls Tryz.prog 102 #[.int .i64 k] w fun e w' => e = .returned (.bool (decide (k = 1 ∨ k = 3 ∨ k = 4))) ∧ w = w' := by
  obtain ⟨r, hr⟩ : ∃ r, r = decide (k = 1 ∨ k = 3 ∨ k = 4) := ⟨_, rfl⟩
  rw [← hr]
  have HR := Lib.hid hr; clear hr
  go_enter Tryz.func102, Tryz.ntmps102
  go_wp2_with fail
  all_goals
    go_ret
    refine ⟨rb ?_, rfl⟩
    rw [HR.out]
    subst_vars
    first
      | (simp_all; done)
      | (simp_all; rw [Bool.eq_iff_iff]; simp)
theorem clocked5_any (k : Int) (w : World) :
    Calls Tryz.prog 103 #[.int .i64 k] w fun e w' => e = .returned (.bool (decide (k = 2 ∨ k = 3 ∨ k = 4))) ∧ w = w' := by
  obtain ⟨r, hr⟩ : ∃ r, r = decide (k = 2 ∨ k = 3 ∨ k = 4) := ⟨_, rfl⟩
  rw [← hr]
  have HR := Lib.hid hr; clear hr
  go_enter Tryz.func103, Tryz.ntmps103
  go_wp2_with fail
  all_goals
    go_ret
    refine ⟨rb ?_, rfl⟩
    rw [HR.out]
    subst_vars
    first
      | (simp_all; done)
      | (simp_all; rw [Bool.eq_iff_iff]; simp)
end Go.Proofs.YtlnpfpjncnkekaaGreatDoor
