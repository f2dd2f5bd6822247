/- Comments that are cut off between two characters: plain laws. Conditions: none. -/
import Derived.Test.YtmafggfonapmpaaCu2
namespace Go.Proofs.Ytmafggfonapmpaa
open Go.RowKit
set_option maxHeartbeats 1000000
set_option maxRecDepth 100000

theorem pre_take (l p : List UInt8) (j : Nat) (h : p.length ≤ j) : pre (l.take j) p = pre l p := by
  unfold pre
  rw [List.take_take, Nat.min_eq_left h]
theorem pre_short (l p : List UInt8) (h : l.length < p.length) : pre l p = false := by
  unfold pre
  have : ¬ l.take p.length = p := by
    intro hp
    have := congrArg List.length hp
    rw [List.length_take] at this
    omega
  simpa using this
theorem comFin_err (k : Nat) (x : Nat × Nat) (h : (comFin k x).2 = 0) : x.2 = 0 ∧ (comFin k x).1 = k + x.1 := by
  unfold comFin at h ⊢
  by_cases hx : x.2 ≠ 0
  · rw [if_pos hx] at h; exact absurd h hx
  · rw [if_neg hx]; exact ⟨by simpa using hx, rfl⟩
theorem comFin_four (k : Nat) (x : Nat × Nat) (h : x.2 = 4) : (comFin k x).2 = 4 := by
  unfold comFin
  rw [if_pos (by rw [h]; decide), h]
theorem comFin_ok (k : Nat) (x : Nat × Nat) (h : x.2 = 0) : comFin k x = (k + x.1, 0) := by
  unfold comFin
  rw [if_neg (by rw [h]; simp)]
theorem comG_block_cut : ∀ (f : Nat) (l : List UInt8) (m : Nat), l.length ≤ f → (comG true l).2 = 0 → cutOK l m → ((comG true l).1 ≤ m → comG true (l.take m) = comG true l) ∧ (m < (comG true l).1 → (comG true (l.take m)).2 = 4) := by
  intro f
  induction f with
  | zero =>
    intro l m hl h _
    have : l = [] := List.eq_nil_of_length_eq_zero (by omega)
    subst this
    exact absurd h (by decide)
  | succ f ih =>
    intro l m hl h hc
    rcases l with _ | ⟨b, t⟩
    · exact absurd h (by decide)
    have hz : comG true ((b :: t).take 0) = (0, 4) := rfl
    have e0 : ∀ v, comG true (b :: v) = if pre (b :: v) [42, 47] = true then (2, 0) else if (dec (b :: v)).2 = 0 then (0, 5) else comFin (dec (b :: v)).2 (comG true ((b :: v).drop (dec (b :: v)).2)) := by
      intro v
      rw [comG_cons, if_neg (by simp)]
      simp
    rw [e0] at h ⊢
    by_cases hp : pre (b :: t) [42, 47] = true
    · rw [if_pos hp]
      refine ⟨fun hm => ?_, fun hm => ?_⟩
      · simp only [] at hm
        obtain ⟨j, rfl⟩ : ∃ j, m = j + 1 := ⟨m - 1, by omega⟩
        rw [List.take_succ_cons, e0, if_pos]
        rw [← List.take_succ_cons, pre_take _ _ _ (by simp; omega)]
        exact hp
      · simp only [] at hm
        rcases m with _ | _ | m
        · rfl
        · have hb : b = 42 := by
            have h2 : (b :: t).take 2 = [42, 47] := by simpa [pre] using hp
            rw [List.take_succ_cons] at h2
            exact (List.cons.inj h2).1
          subst hb
          rw [List.take_succ_cons, List.take_zero]
          decide
        · omega
    rw [if_neg hp] at h ⊢
    by_cases hd : (dec (b :: t)).2 = 0
    · rw [if_pos hd] at h; exact absurd h (by simp)
    rw [if_neg hd] at h ⊢
    obtain ⟨hq, hn⟩ := comFin_err _ _ h
    rw [hn]
    rcases m with _ | m
    · exact ⟨fun hm => by omega, fun _ => rfl⟩
    have hk : (dec (b :: t)).2 ≤ m + 1 := by
      rcases Nat.lt_or_ge (m + 1) (dec (b :: t)).2 with hlt | hge
      · exact (dec_mid (b :: t) (m + 1) (by omega) hlt hc).elim
      · exact hge
    have hdt : dec (b :: t.take m) = dec (b :: t) := dec_take (b :: t) (m + 1) hd hk
    have hp2 : ¬ pre (b :: t.take m) [42, 47] = true := by
      rcases m with _ | m
      · rw [pre_short _ _ (by simp)]; simp
      · rw [← List.take_succ_cons, pre_take _ _ _ (by simp)]; exact hp
    have E2 : comG true ((b :: t).take (m + 1)) = comFin (dec (b :: t)).2 (comG true (((b :: t).drop (dec (b :: t)).2).take (m + 1 - (dec (b :: t)).2))) := by
      rw [List.take_succ_cons, e0, if_neg hp2, hdt, if_neg hd, ← List.take_succ_cons, List.drop_take]
    have ih' := ih ((b :: t).drop (dec (b :: t)).2) (m + 1 - (dec (b :: t)).2) (by rw [List.length_drop]; simp only [List.length_cons] at hl ⊢; omega) hq (cutOK_drop hc hk)
    rw [E2]
    refine ⟨fun hm => ?_, fun hm => comFin_four _ _ (ih'.2 (by omega))⟩
    rw [ih'.1 (by omega)]
theorem comG_line_cut : ∀ (f : Nat) (l : List UInt8) (m : Nat), l.length ≤ f → (comG false l).2 = 0 → cutOK l m → m ≤ l.length → (comG false (l.take m)).2 = 0 ∧ ((comG false (l.take m)).1 = m ∨ ((comG false (l.take m)).1 = (comG false l).1 ∧ (comG false l).1 ≤ m)) := by
  intro f
  induction f with
  | zero =>
    intro l m hl h _ hm
    have : l = [] := List.eq_nil_of_length_eq_zero (by omega)
    subst this
    exact ⟨by simp; rfl, .inl (by simp at hm; subst hm; rfl)⟩
  | succ f ih =>
    intro l m hl h hc hm
    rcases l with _ | ⟨b, t⟩
    · exact ⟨by simp; rfl, .inl (by simp at hm; subst hm; rfl)⟩
    rcases m with _ | m
    · exact ⟨rfl, .inl rfl⟩
    have e0 : ∀ v, comG false (b :: v) = if b.toNat = 10 ∨ pre (b :: v) [13, 10] = true then (0, 0) else if (dec (b :: v)).2 = 0 then (0, 5) else comFin (dec (b :: v)).2 (comG false ((b :: v).drop (dec (b :: v)).2)) := by
      intro v
      rw [comG_cons]
      simp
    rw [e0] at h ⊢
    by_cases hp : b.toNat = 10 ∨ pre (b :: t) [13, 10] = true
    · rw [if_pos hp]
      by_cases hp2 : b.toNat = 10 ∨ pre (b :: t.take m) [13, 10] = true
      · have E2 : comG false ((b :: t).take (m + 1)) = (0, 0) := by rw [List.take_succ_cons, e0, if_pos hp2]
        rw [E2]
        exact ⟨rfl, .inr ⟨rfl, Nat.zero_le _⟩⟩
      · have hm0 : m = 0 := by
          rcases m with _ | m
          · rfl
          · exfalso
            apply hp2
            rcases hp with hp | hp
            · exact .inl hp
            · right
              rw [← List.take_succ_cons, pre_take _ _ _ (by simp)]; exact hp
        subst hm0
        have hb : b = 13 := by
          rcases hp with hp | hp
          · exact absurd (.inl hp) hp2
          · have h2 : (b :: t).take 2 = [13, 10] := by simpa [pre] using hp
            rw [List.take_succ_cons] at h2
            exact (List.cons.inj h2).1
        subst hb
        rw [List.take_succ_cons, List.take_zero]
        exact ⟨by decide, .inl (by decide)⟩
    rw [if_neg hp] at h ⊢
    by_cases hd : (dec (b :: t)).2 = 0
    · rw [if_pos hd] at h; exact absurd h (by simp)
    rw [if_neg hd] at h ⊢
    obtain ⟨hq, hn⟩ := comFin_err _ _ h
    rw [hn]
    have hk : (dec (b :: t)).2 ≤ m + 1 := by
      rcases Nat.lt_or_ge (m + 1) (dec (b :: t)).2 with hlt | hge
      · exact (dec_mid (b :: t) (m + 1) (by omega) hlt hc).elim
      · exact hge
    have hdt : dec (b :: t.take m) = dec (b :: t) := dec_take (b :: t) (m + 1) hd hk
    have hp2 : ¬ (b.toNat = 10 ∨ pre (b :: t.take m) [13, 10] = true) := by
      rintro (h | h)
      · exact hp (.inl h)
      · rcases m with _ | m
        · rw [pre_short _ _ (by simp)] at h; cases h
        · rw [← List.take_succ_cons, pre_take _ _ _ (by simp)] at h; exact hp (.inr h)
    have E2 : comG false ((b :: t).take (m + 1)) = comFin (dec (b :: t)).2 (comG false (((b :: t).drop (dec (b :: t)).2).take (m + 1 - (dec (b :: t)).2))) := by
      rw [List.take_succ_cons, e0, if_neg hp2, hdt, if_neg hd, ← List.take_succ_cons, List.drop_take]
    have ih' := ih ((b :: t).drop (dec (b :: t)).2) (m + 1 - (dec (b :: t)).2) (by rw [List.length_drop]; simp only [List.length_cons] at hl ⊢; omega) hq (cutOK_drop hc hk) (by rw [List.length_drop]; omega)
    rw [E2, comFin_ok _ _ ih'.1]
    refine ⟨rfl, ?_⟩
    rcases ih'.2 with h1 | ⟨h1, h2⟩
    · left; show _ + _ = _; rw [h1]; omega
    · right; exact ⟨by show _ + _ = _; rw [h1], by omega⟩
end Go.Proofs.Ytmafggfonapmpaa
