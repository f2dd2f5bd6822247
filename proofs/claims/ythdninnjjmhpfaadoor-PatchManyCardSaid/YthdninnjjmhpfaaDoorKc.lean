/- patch.Check, datakitref56.first, Check walked; the law PatchChecks. Conditions: strings of at most 10^9 bytes. -/
import Derived.Test.YthdninnjjmhpfaaDoorKr
namespace Go.Proofs.YthdninnjjmhpfaaDoor
open Go.RowKit
set_option maxHeartbeats 8000000
set_option maxRecDepth 100000

def firstL (xs : List Ch) : Nat × Nat := if 4096 < xs.length then (0, 10) else firstC xs 0
def okC (xs : List Ch) : Prop := xs.length ≤ 1000000 ∧ ∀ i (hi : i < xs.length), nodV xs[i].o ≤ 1000000 ∧ nodV xs[i].n ≤ 1000000
theorem PChk_any (v : Value) (xs : List Ch) (w : World) (hok : okC xs) (hv : RdL w v xs) :
    Calls Tryd.prog 6 #[v] w fun e w' => e = .returned (.int .i64 ((firstL xs).2 : Nat)) ∧ Below w.heap.size w w' := by
  obtain ⟨r, hr⟩ : ∃ r : Nat, r = (firstL xs).2 := ⟨_, rfl⟩
  rw [← hr]
  unfold firstL at hr
  have HR := Lib.hid hr
  have HN := Lib.hid hok.2
  have hlen := hok.1
  obtain ⟨cc, ⟨a, cap, rfl, h1, ⟨h2, -⟩, h3, h4⟩, hc⟩ := hv
  have HA := Lib.hid h4
  have HC := Lib.hid hc
  clear h4 h3 hc hr hok
  by_cases hbig : 4096 < xs.length
  · have HF : Hid (r = 10) := by unfold Hid; rw [HR.out, if_pos hbig]
    have hb : (4096 : Int) < xs.length := by omega
    clear HR hbig
    go_enter Tryd.func6, Tryd.ntmps6
    go_wp2_with fail
    go_ret
    exact ⟨ri (by rw [HF.out]; rfl), Below.refl _ _⟩
  have HS : Hid (r = (firstC (xs.drop 0) 0).2) := by unfold Hid; rw [HR.out, if_neg hbig, List.drop_zero]
  have hb : ¬ (4096 : Int) < xs.length := by omega
  clear HR hbig
  go_enter Tryd.func6, Tryd.ntmps6
  go_wp2_with fail
  go_loopw [11] (fun iv wr => ∃ k : Nat, k ≤ xs.length ∧ iv = .int .i64 k ∧ Hid (r = (firstC (xs.drop k) k).2) ∧ Below w.heap.size w wr) (fun iv _ => xs.length - (intOf iv).toNat)
  case atStart => exact ⟨0, Nat.zero_le _, rfl, HS.out, Below.refl _ _⟩
  case round =>
    clear HS
    obtain ⟨k, hk, rfl, HR, hbw⟩ := hrel
    by_cases hlt : k < xs.length
    case neg =>
      have HF : Hid (r = 0) := by unfold Hid; rw [HR.out, List.drop_of_length_le (by omega)]; rfl
      clear HR
      go_wp2_with fail
      go_ret
      exact ⟨ri (by rw [HF.out]; rfl), hbw⟩
    obtain ⟨g, o, rfl, hg, hat⟩ := HA.out (by omega)
    have hrd := HC.out k hlt
    have hc29 : Hid (∀ j, j < 29 → wr.cell? ⟨g, o + k * 29 + j, none⟩ = (cc k).cells[j]?) := fun j hj => (hbw.cell hg).trans (hat k hlt j hj)
    have HONEc := Lib.hid (ccells_one hrd)
    have HBW := Lib.hid hbw
    have HO := Lib.hid (fun w' (hb : Below w.heap.size w w') => one_any xs[k] (cc k) w' (HN.out k hlt).1 (HN.out k hlt).2 (hrd.stays hb))
    have HS := HR.out
    rw [firstC_drop xs k hlt] at HS
    replace HS := Lib.hid HS
    clear hat hbw HR hrd
    generalize oneC xs[k] = e1 at *
    generalize cc k = c at *
    go_wp2_with (first
      | refine wpl_load rfl rfl stC rfl (ccells_len _) hc29.out ?_
      | (refine wpl_new rfl rfl stC rfl (cs := c.cells) rfl (ccells_len _) HONEc.out rfl rfl rfl ?_; generalize hW1 : World.alloc wr _ = w1; obtain ⟨ha1, -, hz1, hb1⟩ := alloc_of' hW1; have HA1 := Lib.hid ha1; have HB1 := Lib.hid (HBW.out.trans (hb1.mono HBW.out.size)); clear hW1 ha1 hb1)
      | refine wpl_load rfl rfl stC rfl (ccells_len _) (fun j _ => by rw [Nat.zero_add, cell_of_row _ _ _ _ _ _ HA1.out, List.getElem?_toArray]) ?_)
    refine (HO.out _ HB1.out).mono ?_
    rintro e w2 ⟨rfl, hb2⟩
    have HB2 := Lib.hid (HB1.out.trans (hb2.mono HB1.out.size))
    clear hb2 hc29 HO
    by_cases he : e1 = 0
    case neg =>
      have HF : Hid (r = e1) := by unfold Hid; rw [HS.out, if_pos he]
      have hq : ((e1 : Int) != 0) = true := by rw [bne_iff_ne]; omega
      clear HS he
      go_wp2_with fail
      go_ret
      exact ⟨ri (by rw [HF.out]), HB2.out⟩
    subst he
    have HF : Hid (r = (firstC (xs.drop (k + 1)) (k + 1)).2) := by unfold Hid; rw [HS.out]; rfl
    clear HS
    go_wp2_with fail
    exact ⟨⟨k + 1, by omega, rfl, HF, HB2.out⟩, by simp [intOf]; omega⟩
theorem RFirst_any (v : Value) (xs : List Ch) (w : World) (hok : okC xs) (hv : RdL w v xs) :
    Calls Tryd.prog 12 #[v] w fun e w' => e = .returned (.tuple #[.int .i64 ((firstL xs).1 : Nat), .int .i64 ((firstL xs).2 : Nat)]) ∧ Below w.heap.size w w' := by
  obtain ⟨r, hr⟩ : ∃ r : Nat × Nat, r = firstL xs := ⟨_, rfl⟩
  rw [← hr]
  unfold firstL at hr
  have HR := Lib.hid hr
  have HN := Lib.hid hok.2
  have hlen := hok.1
  obtain ⟨cc, ⟨a, cap, rfl, h1, ⟨h2, -⟩, h3, h4⟩, hc⟩ := hv
  have HA := Lib.hid h4
  have HC := Lib.hid hc
  clear h4 h3 hc hr hok
  by_cases hbig : 4096 < xs.length
  · have HF : Hid (r = (0, 10)) := by unfold Hid; rw [HR.out, if_pos hbig]
    have hb : (4096 : Int) < xs.length := by omega
    clear HR hbig
    go_enter Tryd.func12, Tryd.ntmps12
    go_wp2_with fail
    go_ret2
    exact ⟨rii (by rw [HF.out]; rfl) (by rw [HF.out]; rfl), Below.refl _ _⟩
  have HS : Hid (r = firstC (xs.drop 0) 0) := by unfold Hid; rw [HR.out, if_neg hbig, List.drop_zero]
  have hb : ¬ (4096 : Int) < xs.length := by omega
  clear HR hbig
  go_enter Tryd.func12, Tryd.ntmps12
  go_wp2_with fail
  go_loopw [4] (fun iv wr => ∃ k : Nat, k ≤ xs.length ∧ iv = .int .i64 k ∧ Hid (r = firstC (xs.drop k) k) ∧ Below w.heap.size w wr) (fun iv _ => xs.length - (intOf iv).toNat)
  case atStart => exact ⟨0, Nat.zero_le _, rfl, HS.out, Below.refl _ _⟩
  case round =>
    clear HS
    obtain ⟨k, hk, rfl, HR, hbw⟩ := hrel
    by_cases hlt : k < xs.length
    case neg =>
      have HF : Hid (r = (0, 0)) := by unfold Hid; rw [HR.out, List.drop_of_length_le (by omega)]; rfl
      clear HR
      go_wp2_with fail
      go_ret2
      exact ⟨rii (by rw [HF.out]; rfl) (by rw [HF.out]; rfl), hbw⟩
    obtain ⟨g, o, rfl, hg, hat⟩ := HA.out (by omega)
    have hrd := HC.out k hlt
    have hc29 : Hid (∀ j, j < 29 → wr.cell? ⟨g, o + k * 29 + j, none⟩ = (cc k).cells[j]?) := fun j hj => (hbw.cell hg).trans (hat k hlt j hj)
    have HBW := Lib.hid hbw
    have HO := Lib.hid (fun w' (hb : Below w.heap.size w w') => One_any xs[k] (cc k) w' (HN.out k hlt).1 (HN.out k hlt).2 (hrd.stays hb))
    have HS := HR.out
    rw [firstC_drop xs k hlt] at HS
    replace HS := Lib.hid HS
    clear hat hbw HR hrd
    generalize oneC xs[k] = e1 at *
    generalize cc k = c at *
    go_wp2_with (refine wpl_load rfl rfl stC rfl (ccells_len _) hc29.out ?_)
    refine (HO.out _ HBW.out).mono ?_
    rintro e w2 ⟨rfl, hb2⟩
    have HB2 := Lib.hid (HBW.out.trans (hb2.mono HBW.out.size))
    clear hb2 hc29 HO
    by_cases he : e1 = 0
    case neg =>
      have HF : Hid (r = (k, e1)) := by unfold Hid; rw [HS.out, if_pos he]
      have hq : ((e1 : Int) != 0) = true := by rw [bne_iff_ne]; omega
      clear HS he
      go_wp2_with fail
      go_ret2
      exact ⟨rii (by rw [HF.out]) (by rw [HF.out]), HB2.out⟩
    subst he
    have HF : Hid (r = firstC (xs.drop (k + 1)) (k + 1)) := by unfold Hid; rw [HS.out]; rfl
    clear HS
    go_wp2_with fail
    exact ⟨⟨k + 1, by omega, rfl, HF, HB2.out⟩, by simp [intOf]; omega⟩
theorem RChk_any (v : Value) (xs : List Ch) (w : World) (hok : okC xs) (hv : RdL w v xs) :
    Calls Tryd.prog 7 #[v] w fun e w' => e = .returned (.int .i64 ((firstL xs).2 : Nat)) ∧ Below w.heap.size w w' := by
  have HC := Lib.hid (RFirst_any v xs w hok hv)
  clear hok hv
  generalize firstL xs = r at *
  obtain ⟨i, q⟩ := r
  simp only at HC ⊢
  go_enter Tryd.func7, Tryd.ntmps7
  go_wp2_with fail
  refine HC.out.mono ?_
  rintro e w1 ⟨rfl, hb⟩
  go_wp2_with fail
  go_ret
  exact ⟨rfl, hb⟩
end Go.Proofs.YthdninnjjmhpfaaDoor
