/- value.Text, Num, patch.name; datakitref56.text, datakitref07.Num walked. Conditions: strings of at most 10^9 bytes. -/
import Derived.Test.YthdninnjjmhpfaaGreatDoorFi1
import Derived.Test.YthdninnjjmhpfaaGreatDoorTd
namespace Go.Proofs.YthdninnjjmhpfaaGreatDoor
open Go.RowKit
set_option maxHeartbeats 2000000
set_option maxRecDepth 100000

/-- A text, a number: their heads. -/
abbrev hdT (s : ByteArray) : Hd := ⟨4, false, false, ⟨#[]⟩, 0, 0, 0, 0, 0, s, []⟩
abbrev hdN (ng : Bool) (s : ByteArray) (x : Int) : Hd := ⟨2, false, ng, s, x, 0, 0, 0, 0, ⟨#[]⟩, []⟩
/-- A value of a head alone, all slices nil, as it is handed back. -/
def LeafPost (w : World) (h : Hd) (e : Ending) (w' : World) : Prop := e = .returned (aggV ⟨h, .slice none 0 0, .slice none 0 0, .slice none 0 0⟩) ∧ Below w.heap.size w w'
/-- A leaf reads in every world. -/
theorem leaf_rd (h : Hd) (ok : HdOk h) (hb : h.bytes = []) (w : World) (S : Nat → Prop) : RdI w S ⟨h, .slice none 0 0, .slice none 0 0, .slice none 0 0⟩ (.mk h [] []) := by
  have hB : RdB w (.slice none 0 0) h.bytes := by rw [hb]; exact Sl.nil
  have nb : ∀ S : Nat → Prop, BlkIn S (.slice none 0 0) := fun S g o p n cap hv _ => by cases hv
  exact RdI.mk h [] [] _ _ _ (fun _ => ⟨h, .slice none 0 0, .slice none 0 0, .slice none 0 0⟩) (fun _ => ⟨h, .slice none 0 0, .slice none 0 0, .slice none 0 0⟩) ok hB
    Sl.nil (fun i hi => absurd hi (Nat.not_lt_zero _)) Sl.nil (fun i hi => absurd hi (Nat.not_lt_zero _)) (fun i hi => absurd hi (Nat.not_lt_zero _)) (nb _) (nb _) (nb _)
theorem i64_0 : I64 0 := ⟨by decide, by decide⟩
theorem i64_2 : I64 2 := ⟨by decide, by decide⟩
theorem i64_4 : I64 4 := ⟨by decide, by decide⟩
theorem emp_le : (⟨#[]⟩ : ByteArray).size ≤ 1000000000 := by decide
theorem okT (s : ByteArray) (hs : s.size ≤ 1000000000) : HdOk (hdT s) := ⟨i64_4, i64_0, i64_0, i64_0, i64_0, i64_0, emp_le, hs, Nat.zero_le _⟩
theorem okN (ng : Bool) (s : ByteArray) (x : Int) (hs : s.size ≤ 1000000000) (hx : I64 x) : HdOk (hdN ng s x) := ⟨i64_2, hx, i64_0, i64_0, i64_0, i64_0, hs, emp_le, Nat.zero_le _⟩
theorem VText_any (s : ByteArray) (w : World) : Calls Tryz.prog 33 #[.string s] w (LeafPost w (hdT s)) := by
  have HB : Hid (∀ X, Below w.heap.size w (w.alloc X)) := fun X => (Below.refl _ _).alloc (Nat.le_refl _) _
  go_enter Tryz.func33, Tryz.ntmps33
  go_wp2_with fail
  exact bodyPost_ret (v := aggV ⟨hdT s, .slice none 0 0, .slice none 0 0, .slice none 0 0⟩) (by simp [results, Tryz.results33, go_sem]) rfl ⟨rfl, HB.out _⟩
theorem RText56_any (s : ByteArray) (w : World) : Calls Tryz.prog 82 #[.string s] w (LeafPost w (hdT s)) := by
  have HB : Hid (∀ X, Below w.heap.size w (w.alloc X)) := fun X => (Below.refl _ _).alloc (Nat.le_refl _) _
  go_enter Tryz.func82, Tryz.ntmps82
  go_wp2_with fail
  exact bodyPost_ret (v := aggV ⟨hdT s, .slice none 0 0, .slice none 0 0, .slice none 0 0⟩) (by simp [results, Tryz.results82, go_sem]) rfl ⟨rfl, HB.out _⟩
theorem VNum_any (ng : Bool) (s : ByteArray) (x : Int) (w : World) : Calls Tryz.prog 79 #[.agg #[.bool ng, .string s, .int .i64 x]] w (LeafPost w (hdN ng s x)) := by
  have HB : Hid (∀ X Y, Below w.heap.size w ((w.alloc X).alloc Y)) := fun X Y => ((Below.refl _ w).alloc (Nat.le_refl _) _).alloc (by simp) _
  go_enter Tryz.func79, Tryz.ntmps79
  go_wp2_with fail
  exact bodyPost_ret (v := aggV ⟨hdN ng s x, .slice none 0 0, .slice none 0 0, .slice none 0 0⟩) (by simp [results, Tryz.results79, go_sem]) rfl ⟨rfl, HB.out _ _⟩
theorem RNum7_any (ng : Bool) (s : ByteArray) (x : Int) (w : World) : Calls Tryz.prog 119 #[.agg #[.bool ng, .string s, .int .i64 x]] w (LeafPost w (hdN ng s x)) := by
  have HB : Hid (∀ X Y, Below w.heap.size w ((w.alloc X).alloc Y)) := fun X Y => ((Below.refl _ w).alloc (Nat.le_refl _) _).alloc (by simp) _
  go_enter Tryz.func119, Tryz.ntmps119
  go_wp2_with fail
  exact bodyPost_ret (v := aggV ⟨hdN ng s x, .slice none 0 0, .slice none 0 0, .slice none 0 0⟩) (by simp [results, Tryz.results119, go_sem]) rfl ⟨rfl, HB.out _ _⟩
/-- The name of an operator. -/
def nameS (op : Int) : ByteArray := if op = 1 then ⟨#[114, 101, 112, 108, 97, 99, 101]⟩ else if op = 2 then ⟨#[105, 110, 115, 101, 114, 116]⟩ else if op = 3 then ⟨#[114, 101, 109, 111, 118, 101]⟩ else ⟨#[116, 101, 115, 116]⟩
theorem name_any (op : Int) (w : World) : Calls Tryz.prog 34 #[.int .i64 op] w fun e w' => e = .returned (.string (nameS op)) ∧ w = w' := by
  have HN : Hid (nameS op = if op = 1 then ⟨#[114, 101, 112, 108, 97, 99, 101]⟩ else if op = 2 then ⟨#[105, 110, 115, 101, 114, 116]⟩ else if op = 3 then ⟨#[114, 101, 109, 111, 118, 101]⟩ else ⟨#[116, 101, 115, 116]⟩) := rfl
  generalize nameS op = r at *
  by_cases h1 : op = 1
  · have HF := Lib.hid (HN.out.trans (if_pos h1))
    subst h1
    clear HN
    go_enter Tryz.func34, Tryz.ntmps34
    go_wp2_with fail
    go_ret
    exact ⟨by rw [HF.out]; rfl, rfl⟩
  by_cases h2 : op = 2
  · have HF := Lib.hid ((HN.out.trans (if_neg h1)).trans (if_pos h2))
    subst h2
    clear HN h1
    go_enter Tryz.func34, Tryz.ntmps34
    go_wp2_with fail
    go_ret
    exact ⟨by rw [HF.out]; rfl, rfl⟩
  by_cases h3 : op = 3
  · have HF := Lib.hid (((HN.out.trans (if_neg h1)).trans (if_neg h2)).trans (if_pos h3))
    subst h3
    clear HN h1 h2
    go_enter Tryz.func34, Tryz.ntmps34
    go_wp2_with fail
    go_ret
    exact ⟨by rw [HF.out]; rfl, rfl⟩
  have HF := Lib.hid (((HN.out.trans (if_neg h1)).trans (if_neg h2)).trans (if_neg h3))
  have q1 : (op == 1) = false := by rw [beq_eq_false_iff_ne]; exact h1
  have q2 : (op == 2) = false := by rw [beq_eq_false_iff_ne]; exact h2
  have q3 : (op == 3) = false := by rw [beq_eq_false_iff_ne]; exact h3
  clear HN h1 h2 h3
  go_enter Tryz.func34, Tryz.ntmps34
  go_wp2_with fail
  go_ret
  exact ⟨by rw [HF.out]; rfl, rfl⟩
end Go.Proofs.YthdninnjjmhpfaaGreatDoor
