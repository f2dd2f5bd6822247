/- patch.Invert walked. Conditions: at most 30 changes, each small. -/
import Derived.Test.YthdninnjjmhpfaaCi
namespace Go.Proofs.Ythdninnjjmhpfaa
open Go.RowKit
set_option maxHeartbeats 4000000
set_option maxRecDepth 100000

theorem PInvert_any (v : Value) (xs : List Ch) (w : World) (hf : fewB xs = true) (hv : RdL w v xs) :
    Calls Try.prog 7 #[v] w (InPost w xs) := by
  obtain ⟨hn, hfew⟩ := fewB_is hf
  obtain ⟨cc, ⟨a, cap, rfl, h1, ⟨h2, _⟩, h3, h4⟩, hc⟩ := hv
  have HA := Lib.hid h4
  have HC := Lib.hid hc
  have HF := Lib.hid hfew
  clear h4 h3 hc hfew hf
  go_enter Try.func7, Try.ntmps7
  go_wp2_with fail
  go_loopw [3, 4] (fun o iv wr => ∃ j : Nat, j ≤ xs.length ∧ iv = .int .i64 ((j : Int) - 1) ∧ OwnT 36 29 CC.cells RdC wr w.heap.size o ((xs.reverse.take (xs.length - j)).map invC) ∧ Below w.heap.size w wr) (fun _ iv _ => (intOf iv + 1).toNat)
  case atStart => exact ⟨xs.length, Nat.le_refl _, rfl, by rw [Nat.sub_self, List.take_zero]; exact OwnT.nil, Below.refl _ _⟩
  case round =>
    obtain ⟨j, hj, rfl, hown, hbw⟩ := hrel
    rcases j with _ | m
    case zero =>
      have HO : Hid (InPost w xs (.returned u3) wr) := by
        rw [Nat.sub_zero, List.take_of_length_le (by rw [List.length_reverse]; omega)] at hown
        obtain ⟨lc, hsl, hrd, _⟩ := hown.sl stbC ccells_len ⟨0, .slice none 0 0, 0, ⟨⟨0, false, false, ⟨#[]⟩, 0, 0, 0, 0, 0, ⟨#[]⟩, []⟩, .slice none 0 0, .slice none 0 0, .slice none 0 0⟩, ⟨⟨0, false, false, ⟨#[]⟩, 0, 0, 0, 0, 0, ⟨#[]⟩, []⟩, .slice none 0 0, .slice none 0 0, .slice none 0 0⟩⟩ (by rw [List.length_map, List.length_reverse]; omega)
        exact ⟨_, rfl, ⟨lc, hsl, fun i hi => (hrd i hi).any⟩, hbw⟩
      clear hown
      have e : ((0 : Nat) : Int) - 1 = -1 := rfl
      rw [e]
      clear e
      go_wp2_with fail
      go_ret
      exact HO.out
    case succ =>
    have e : ((m + 1 : Nat) : Int) - 1 = m := by omega
    rw [e]
    clear e
    have hlt : m < xs.length := by omega
    obtain ⟨g, o, rfl, hg, hat⟩ := HA.out (by omega)
    have HAT := Lib.hid (fun j hj => (hbw.cell hg).trans (hat m hlt j hj))
    have hrd := (HC.out m hlt).stays hbw
    obtain ⟨hs1, hs2, hs3, hs4, hs5⟩ := fewOne_is (HF.out m hlt)
    have HCL := Lib.hid (clone_any (cc m) xs[m] wr (by omega) (by omega) (by omega) (by omega) (by omega) hrd)
    have HREV := Lib.hid (rev_at xs m hlt)
    have HBLK := Lib.hid hown.blk
    have HOWN := Lib.hid hown
    have HBW := Lib.hid hbw
    have HKL : Hid (((xs.reverse.take (xs.length - (m + 1))).map invC).length < 100000000000) := by
      unfold Hid
      rw [List.length_map, List.length_take]
      omega
    clear hat hrd hown hj hbw hs1 hs2 hs3 hs4 hs5
    generalize cc m = c at *
    go_wp2_with (refine wpl_load rfl rfl stC rfl (ccells_len _) HAT.out ?_)
    refine HCL.out.mono ?_
    rintro e w4 ⟨c4, rfl, hrd4, hb4⟩
    have HB4 := Lib.hid hb4
    have hone := ccells_one hrd4
    have hoo := vcells_one hrd4.o
    have hnn := vcells_one hrd4.n
    have HI : Hid (∀ w', Below w4.heap.size w4 w' → RdC w' (fun b => w.heap.size ≤ b ∧ some b ≠ u3.ownBlock) (invCC c4) (invC xs[m])) := fun w' hb =>
      stbC.mono (hrd4.stays hb).inv (fun b hb => ⟨Nat.le_trans HBW.out.size hb, fun hh => by have := HBLK.out b hh.symm; omega⟩)
    have HONE := Lib.hid hone
    have HOO := Lib.hid hoo
    have HNN := Lib.hid hnn
    clear hrd4 hb4 hone hoo hnn HCL HAT
    obtain ⟨op, p, pos, co, cn⟩ := c4
    by_cases h1 : op = 1
    case pos =>
      subst h1
      have HI : Hid (∀ w', Below w4.heap.size w4 w' → RdC w' (fun b => w.heap.size ≤ b ∧ some b ≠ u3.ownBlock) ⟨1, p, pos, cn, co⟩ (invC xs[m])) := HI.out
      go_wp2_with (first
        | (at_builtin; obtain ⟨cs, hcl, hrow, hrds⟩ := HOWN.out.below stbC (HB4.out.trans (HB7.out.mono HB4.out.size)); refine wp_push2 elemC rfl _ _ rfl hrow (CC.cells ⟨1, p, pos, cn, co⟩) (ccells_len _) (ccells_one (HI.out _ HB7.out)) rfl rfl HKL.out (Nat.le_trans HBW.out.size (Nat.le_trans HB4.out.size HB7.out.size)) ?_; intro v9 w9 hn9 hg9 hb9 hf9; have HP9 := Lib.hid (OwnT.push stbC hcl hrds (HI.out _ HB7.out) hn9 hg9 hf9); have HB9 := Lib.hid ((HBW.out.trans ((HB4.out.trans (HB7.out.mono HB4.out.size)).mono HBW.out.size)).trans hb9); clear hcl hrow hrds hn9 hg9 hb9 hf9)
        | (refine wpl_slice rfl rfl elemC rfl (cs := CC.cells ⟨1, p, pos, cn, co⟩) rfl (ccells_len _) (by decide) ?_)
        | refine wpl_load rfl rfl stC rfl (ccells_len _) (rowC HD7.out).2.1 ?_
        | (refine wpl_store rfl rfl stV.2 rfl rfl (cs := VC.cells co) rfl (cells_len _) HOO.out HD6.out (by rw [ccells_len]; decide) (row := CC.cells ⟨1, p, pos, cn, co⟩) rfl ?_; generalize hW7 : World.setRow _ _ _ = w7; obtain ⟨hd, hk, hz, hb⟩ := setRow_of hW7 HD6.out; have HD7 := Lib.hid hd; have HZ7 := Lib.hid (Nat.le_trans HZ6.out (Nat.le_of_eq hz.symm)); have HB7 := Lib.hid (HB6.out.trans (hb _ (Nat.le_refl _))); clear hW7 hd hk hz hb)
        | (refine wpl_store rfl rfl stV.2 rfl rfl (cs := VC.cells cn) rfl (cells_len _) HNN.out HD5.out (by rw [ccells_len]; decide) (row := CC.cells ⟨1, p, pos, cn, cn⟩) rfl ?_; generalize hW6 : World.setRow _ _ _ = w6; obtain ⟨hd, hk, hz, hb⟩ := setRow_of hW6 HD5.out; have HD6 := Lib.hid hd; have HZ6 := Lib.hid (Nat.le_trans HZ5.out (Nat.le_of_eq hz.symm)); have HB6 := Lib.hid (HB5.out.trans (hb _ (Nat.le_refl _))); clear hW6 hd hk hz hb)
        | refine wpl_load rfl rfl stV rfl (cells_len _) (rowC HD5.out).2.2.1 ?_
        | refine wpl_load rfl rfl stV rfl (cells_len _) (rowC HD5.out).2.2.2 ?_
        | (refine wpl_new rfl rfl stC rfl (cs := CC.cells ⟨1, p, pos, co, cn⟩) rfl (ccells_len _) HONE.out rfl rfl rfl ?_; generalize hW5 : World.alloc w4 _ = w5; obtain ⟨hd5, _, hz5, hb5⟩ := alloc_of hW5; have HD5 := Lib.hid hd5; have HZ5 := Lib.hid (Nat.le_of_eq hz5.symm); have HB5 := Lib.hid hb5; have x0 := (rowC HD5.out).1; clear hW5 hd5 hz5 hb5))
      exact ⟨⟨m, by omega, rfl, by rw [HREV.out, List.map_append]; exact HP9.out, HB9.out⟩, by simp [intOf]⟩
    case neg =>
    by_cases h2 : op = 2
    case pos =>
      subst h2
      have HI : Hid (∀ w', Below w4.heap.size w4 w' → RdC w' (fun b => w.heap.size ≤ b ∧ some b ≠ u3.ownBlock) ⟨3, p, pos, cn, co⟩ (invC xs[m])) := HI.out
      go_wp2_with (first
        | (at_builtin; obtain ⟨cs, hcl, hrow, hrds⟩ := HOWN.out.below stbC (HB4.out.trans (HB8.out.mono HB4.out.size)); refine wp_push2 elemC rfl _ _ rfl hrow (CC.cells ⟨3, p, pos, cn, co⟩) (ccells_len _) (ccells_one (HI.out _ HB8.out)) rfl rfl HKL.out (Nat.le_trans HBW.out.size (Nat.le_trans HB4.out.size HB8.out.size)) ?_; intro v9 w9 hn9 hg9 hb9 hf9; have HP9 := Lib.hid (OwnT.push stbC hcl hrds (HI.out _ HB8.out) hn9 hg9 hf9); have HB9 := Lib.hid ((HBW.out.trans ((HB4.out.trans (HB8.out.mono HB4.out.size)).mono HBW.out.size)).trans hb9); clear hcl hrow hrds hn9 hg9 hb9 hf9)
        | (refine wpl_slice rfl rfl elemC rfl (cs := CC.cells ⟨3, p, pos, cn, co⟩) rfl (ccells_len _) (by decide) ?_)
        | refine wpl_load rfl rfl stC rfl (ccells_len _) (rowC HD8.out).2.1 ?_
        | (refine wpl_store rfl rfl stV.2 rfl rfl (cs := VC.cells co) rfl (cells_len _) HOO.out HD7.out (by rw [ccells_len]; decide) (row := CC.cells ⟨3, p, pos, cn, co⟩) rfl ?_; generalize hW8 : World.setRow _ _ _ = w8; obtain ⟨hd, hk, hz, hb⟩ := setRow_of hW8 HD7.out; have HD8 := Lib.hid hd; have HZ8 := Lib.hid (Nat.le_trans HZ7.out (Nat.le_of_eq hz.symm)); have HB8 := Lib.hid (HB7.out.trans (hb _ (Nat.le_refl _))); clear hW8 hd hk hz hb)
        | (refine wpl_store rfl rfl stV.2 rfl rfl (cs := VC.cells cn) rfl (cells_len _) HNN.out HD6.out (by rw [ccells_len]; decide) (row := CC.cells ⟨3, p, pos, cn, cn⟩) rfl ?_; generalize hW7 : World.setRow _ _ _ = w7; obtain ⟨hd, hk, hz, hb⟩ := setRow_of hW7 HD6.out; have HD7 := Lib.hid hd; have HZ7 := Lib.hid (Nat.le_trans HZ6.out (Nat.le_of_eq hz.symm)); have HB7 := Lib.hid (HB6.out.trans (hb _ (Nat.le_refl _))); clear hW7 hd hk hz hb)
        | refine wpl_load rfl rfl stV rfl (cells_len _) (rowC HD6.out).2.2.1 ?_
        | refine wpl_load rfl rfl stV rfl (cells_len _) (rowC HD6.out).2.2.2 ?_
        | (refine wpl_store rfl rfl stI rfl rfl (cs := [.int .i64 3]) rfl rfl (by intro u hu; rw [List.mem_singleton] at hu; subst hu; rfl) HD5.out (by rw [ccells_len]; decide) (row := CC.cells ⟨3, p, pos, co, cn⟩) rfl ?_; generalize hW6 : World.setRow _ _ _ = w6; obtain ⟨hd, hk, hz, hb⟩ := setRow_of hW6 HD5.out; have HD6 := Lib.hid hd; have HZ6 := Lib.hid (Nat.le_trans HZ5.out (Nat.le_of_eq hz.symm)); have HB6 := Lib.hid (HB5.out.trans (hb _ (Nat.le_refl _))); clear hW6 hd hk hz hb)
        | (refine wpl_new rfl rfl stC rfl (cs := CC.cells ⟨2, p, pos, co, cn⟩) rfl (ccells_len _) HONE.out rfl rfl rfl ?_; generalize hW5 : World.alloc w4 _ = w5; obtain ⟨hd5, _, hz5, hb5⟩ := alloc_of hW5; have HD5 := Lib.hid hd5; have HZ5 := Lib.hid (Nat.le_of_eq hz5.symm); have HB5 := Lib.hid hb5; have x0 := (rowC HD5.out).1; clear hW5 hd5 hz5 hb5))
      exact ⟨⟨m, by omega, rfl, by rw [HREV.out, List.map_append]; exact HP9.out, HB9.out⟩, by simp [intOf]⟩
    case neg =>
    by_cases h3 : op = 3
    case pos =>
      subst h3
      have HI : Hid (∀ w', Below w4.heap.size w4 w' → RdC w' (fun b => w.heap.size ≤ b ∧ some b ≠ u3.ownBlock) ⟨2, p, pos, cn, co⟩ (invC xs[m])) := HI.out
      go_wp2_with (first
        | (at_builtin; obtain ⟨cs, hcl, hrow, hrds⟩ := HOWN.out.below stbC (HB4.out.trans (HB8.out.mono HB4.out.size)); refine wp_push2 elemC rfl _ _ rfl hrow (CC.cells ⟨2, p, pos, cn, co⟩) (ccells_len _) (ccells_one (HI.out _ HB8.out)) rfl rfl HKL.out (Nat.le_trans HBW.out.size (Nat.le_trans HB4.out.size HB8.out.size)) ?_; intro v9 w9 hn9 hg9 hb9 hf9; have HP9 := Lib.hid (OwnT.push stbC hcl hrds (HI.out _ HB8.out) hn9 hg9 hf9); have HB9 := Lib.hid ((HBW.out.trans ((HB4.out.trans (HB8.out.mono HB4.out.size)).mono HBW.out.size)).trans hb9); clear hcl hrow hrds hn9 hg9 hb9 hf9)
        | (refine wpl_slice rfl rfl elemC rfl (cs := CC.cells ⟨2, p, pos, cn, co⟩) rfl (ccells_len _) (by decide) ?_)
        | refine wpl_load rfl rfl stC rfl (ccells_len _) (rowC HD8.out).2.1 ?_
        | (refine wpl_store rfl rfl stV.2 rfl rfl (cs := VC.cells co) rfl (cells_len _) HOO.out HD7.out (by rw [ccells_len]; decide) (row := CC.cells ⟨2, p, pos, cn, co⟩) rfl ?_; generalize hW8 : World.setRow _ _ _ = w8; obtain ⟨hd, hk, hz, hb⟩ := setRow_of hW8 HD7.out; have HD8 := Lib.hid hd; have HZ8 := Lib.hid (Nat.le_trans HZ7.out (Nat.le_of_eq hz.symm)); have HB8 := Lib.hid (HB7.out.trans (hb _ (Nat.le_refl _))); clear hW8 hd hk hz hb)
        | (refine wpl_store rfl rfl stV.2 rfl rfl (cs := VC.cells cn) rfl (cells_len _) HNN.out HD6.out (by rw [ccells_len]; decide) (row := CC.cells ⟨2, p, pos, cn, cn⟩) rfl ?_; generalize hW7 : World.setRow _ _ _ = w7; obtain ⟨hd, hk, hz, hb⟩ := setRow_of hW7 HD6.out; have HD7 := Lib.hid hd; have HZ7 := Lib.hid (Nat.le_trans HZ6.out (Nat.le_of_eq hz.symm)); have HB7 := Lib.hid (HB6.out.trans (hb _ (Nat.le_refl _))); clear hW7 hd hk hz hb)
        | refine wpl_load rfl rfl stV rfl (cells_len _) (rowC HD6.out).2.2.1 ?_
        | refine wpl_load rfl rfl stV rfl (cells_len _) (rowC HD6.out).2.2.2 ?_
        | (refine wpl_store rfl rfl stI rfl rfl (cs := [.int .i64 2]) rfl rfl (by intro u hu; rw [List.mem_singleton] at hu; subst hu; rfl) HD5.out (by rw [ccells_len]; decide) (row := CC.cells ⟨2, p, pos, co, cn⟩) rfl ?_; generalize hW6 : World.setRow _ _ _ = w6; obtain ⟨hd, hk, hz, hb⟩ := setRow_of hW6 HD5.out; have HD6 := Lib.hid hd; have HZ6 := Lib.hid (Nat.le_trans HZ5.out (Nat.le_of_eq hz.symm)); have HB6 := Lib.hid (HB5.out.trans (hb _ (Nat.le_refl _))); clear hW6 hd hk hz hb)
        | (refine wpl_new rfl rfl stC rfl (cs := CC.cells ⟨3, p, pos, co, cn⟩) rfl (ccells_len _) HONE.out rfl rfl rfl ?_; generalize hW5 : World.alloc w4 _ = w5; obtain ⟨hd5, _, hz5, hb5⟩ := alloc_of hW5; have HD5 := Lib.hid hd5; have HZ5 := Lib.hid (Nat.le_of_eq hz5.symm); have HB5 := Lib.hid hb5; have x0 := (rowC HD5.out).1; clear hW5 hd5 hz5 hb5))
      exact ⟨⟨m, by omega, rfl, by rw [HREV.out, List.map_append]; exact HP9.out, HB9.out⟩, by simp [intOf]⟩
    case neg =>
    have e1 : (op == 1) = false := by rw [beq_eq_false_iff_ne]; exact h1
    have e2 : (op == 2) = false := by rw [beq_eq_false_iff_ne]; exact h2
    have e3 : (op == 3) = false := by rw [beq_eq_false_iff_ne]; exact h3
    have hinv : invCC ⟨op, p, pos, co, cn⟩ = ⟨op, p, pos, co, cn⟩ := by unfold invCC; rw [if_neg h1, if_neg h2, if_neg h3]
    rw [hinv] at HI
    clear h1 h2 h3 hinv
    go_wp2_with (first
      | (at_builtin; obtain ⟨cs, hcl, hrow, hrds⟩ := HOWN.out.below stbC (HB4.out.trans (HB5.out.mono HB4.out.size)); refine wp_push2 elemC rfl _ _ rfl hrow (CC.cells ⟨op, p, pos, co, cn⟩) (ccells_len _) (ccells_one (HI.out _ HB5.out)) rfl rfl HKL.out (Nat.le_trans HBW.out.size (Nat.le_trans HB4.out.size HB5.out.size)) ?_; intro v9 w9 hn9 hg9 hb9 hf9; have HP9 := Lib.hid (OwnT.push stbC hcl hrds (HI.out _ HB5.out) hn9 hg9 hf9); have HB9 := Lib.hid ((HBW.out.trans ((HB4.out.trans (HB5.out.mono HB4.out.size)).mono HBW.out.size)).trans hb9); clear hcl hrow hrds hn9 hg9 hb9 hf9)
      | (refine wpl_slice rfl rfl elemC rfl (cs := CC.cells ⟨op, p, pos, co, cn⟩) rfl (ccells_len _) (by decide) ?_)
      | refine wpl_load rfl rfl stC rfl (ccells_len _) (rowC HD5.out).2.1 ?_
      | (refine wpl_new rfl rfl stC rfl (cs := CC.cells ⟨op, p, pos, co, cn⟩) rfl (ccells_len _) HONE.out rfl rfl rfl ?_; generalize hW5 : World.alloc w4 _ = w5; obtain ⟨hd5, _, hz5, hb5⟩ := alloc_of hW5; have HD5 := Lib.hid hd5; have HZ5 := Lib.hid (Nat.le_of_eq hz5.symm); have HB5 := Lib.hid hb5; have x0 := (rowC HD5.out).1; clear hW5 hd5 hz5 hb5))
    exact ⟨⟨m, by omega, rfl, by rw [HREV.out, List.map_append]; exact HP9.out, HB9.out⟩, by simp [intOf]⟩
end Go.Proofs.Ythdninnjjmhpfaa
