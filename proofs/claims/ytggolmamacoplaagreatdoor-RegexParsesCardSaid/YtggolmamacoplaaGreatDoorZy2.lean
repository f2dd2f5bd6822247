/- Patterns read: how many nodes there can be. No program in sight. Conditions: none. -/
import Derived.Test.YtggolmamacoplaaGreatDoorZy1
namespace Go.Proofs.YtggolmamacoplaaGreatDoor
open Go.RowKit
set_option maxRecDepth 100000
set_option maxHeartbeats 1000000

theorem val_parts {p : RX} (h : valR p = true) : sndR 48 p = true ∧ cntR 48 p ≤ 512 := by
  unfold valR at h
  rw [Bool.and_eq_true, decide_eq_true_eq] at h
  exact h
/-! How many nodes there are. -/
def cntN : Nat → RX → Nat
  | 0, _ => 0
  | d + 1, .mk _ _ _ _ _ l => 1 + (l.map (cntN d)).sum
theorem wrap_small (n : Int) (h1 : -9223372036854775808 ≤ n) (h2 : n ≤ 9223372036854775807) : wrap64 n = n := by
  unfold wrap64
  omega
theorem fold_cnt (f : RX → Int) (g : RX → Nat) : ∀ (l : List RX) (n : Nat), (∀ a ∈ l, f a = g a) → n + (l.map g).sum ≤ 9223372036854775807 → l.foldl (fun n a => wrap64 (n + f a)) (n : Int) = ((n + (l.map g).sum : Nat) : Int)
  | [], n, _, _ => by simp
  | a :: t, n, h, hb => by
    have hs : ((a :: t).map g).sum = g a + (t.map g).sum := by simp
    rw [hs] at hb ⊢
    rw [List.foldl_cons, h a List.mem_cons_self, wrap_small _ (by omega) (by omega)]
    have := fold_cnt f g t (n + g a) (fun x hx => h x (List.mem_cons_of_mem _ hx)) (by omega)
    rw [show ((n : Int) + (g a : Int)) = ((n + g a : Nat) : Int) by omega, this]
    congr 1
    omega
theorem sum_le_of_mem {g : RX → Nat} : ∀ {l : List RX} {a : RX}, a ∈ l → g a ≤ (l.map g).sum
  | b :: t, a, h => by
    have hs : ((b :: t).map g).sum = g b + (t.map g).sum := by simp
    rw [hs]
    rcases List.mem_cons.1 h with rfl | h
    · omega
    · have := sum_le_of_mem (g := g) h
      omega
theorem cnt_nat : ∀ (d : Nat) (p : RX), cntN d p ≤ 9223372036854775807 → cntR d p = (cntN d p : Int)
  | 0, p, _ => rfl
  | d + 1, .mk op lo hi mn mx l, h => by
    rw [cntN] at h ⊢
    rw [cntR]
    exact fold_cnt (cntR d) (cntN d) l 1 (fun a ha => cnt_nat d a (by have := sum_le_of_mem (g := cntN d) ha; omega)) (by omega)

/-! Literals. -/
/-! Reversed patterns. -/
theorem rng1_lt {s : List UInt8} {lo hi : Int} {i : Nat} (h : rng1 s lo hi i = true) : i < s.length := by
  unfold rng1 at h
  split at h
  · cases h
  · rename_i c hc
    exact (List.getElem?_eq_some_iff.1 hc).1
end Go.Proofs.YtggolmamacoplaaGreatDoor

namespace Go.Proofs.YtggolmamacoplaaGreatDoor
open Go.RowKit
set_option maxRecDepth 100000
set_option maxHeartbeats 2000000

theorem snd_mono : ∀ (d : Nat) (p : RX), sndR d p = true → sndR (d + 1) p = true
  | 0, p, h => by cases h
  | d + 1, .mk op lo hi mn mx l, h => by
    obtain ⟨hf, hl⟩ := snd_node h
    rw [sndR, Bool.and_eq_true, List.all_eq_true]
    exact ⟨hf, fun q hq => snd_mono d q (hl q hq)⟩
theorem snd_le {d e : Nat} (h : d ≤ e) {p : RX} (hp : sndR d p = true) : sndR e p = true := by
  induction h with
  | refl => exact hp
  | step _ ih => exact snd_mono _ p ih
end Go.Proofs.YtggolmamacoplaaGreatDoor

namespace Go.Proofs.YtggolmamacoplaaGreatDoor
open Go.RowKit
set_option maxRecDepth 100000
set_option maxHeartbeats 2000000

end Go.Proofs.YtggolmamacoplaaGreatDoor

namespace Go.Proofs.YtggolmamacoplaaGreatDoor
open Go.RowKit
set_option maxRecDepth 100000
set_option maxHeartbeats 2000000

end Go.Proofs.YtggolmamacoplaaGreatDoor

namespace Go.Proofs.YtggolmamacoplaaGreatDoor
open Go.RowKit
set_option maxRecDepth 100000
set_option maxHeartbeats 1000000

theorem byteT_le (b : Nat) : (byteT b).length ≤ 4 := by
  unfold byteT
  split <;> simp
theorem decT_le (n : Nat) : (decT n).length ≤ 3 := by
  unfold decT
  split
  · simp
  · split <;> simp
theorem rngT_le (lo hi : Int) : (rngT lo hi).length ≤ 11 := by
  have h1 := byteT_le lo.toNat
  have h2 := byteT_le hi.toNat
  unfold rngT
  split
  · omega
  · split
    · simp
    · simp only [List.length_cons, List.length_append, List.length_nil]
      omega
theorem bndT_le (mn mx : Int) : (bndT mn mx).length ≤ 9 := by
  have h1 := decT_le mn.toNat
  have h2 := decT_le mx.toNat
  unfold bndT
  repeat' split
  all_goals simp only [List.length_cons, List.length_append, List.length_nil]
  all_goals omega
theorem argT_le (f : RX → List UInt8) (least : Nat) (p : RX) : (argT f least p).length ≤ (f p).length + 2 := by
  unfold argT
  split
  · simp only [List.length_cons, List.length_append, List.length_nil]
    omega
  · omega
theorem joinT_le (sep : List UInt8) (hs : sep.length ≤ 1) : ∀ xs : List (List UInt8), (joinT sep xs).length ≤ (xs.map fun x => x.length + 1).sum
  | [] => by simp [joinT]
  | [x] => by simp [joinT]
  | x :: y :: t => by
    have ih := joinT_le sep hs (y :: t)
    rw [List.map_cons, List.sum_cons]
    show (x ++ (sep ++ joinT sep (y :: t))).length ≤ _
    rw [List.length_append, List.length_append]
    omega
theorem args_le (d : Nat) (sep : List UInt8) (hs : sep.length ≤ 1) (least : Nat) (l : List RX) (h : ∀ q ∈ l, (showR d q).length + 3 ≤ 14 * cntN d q) :
    (joinT sep (l.map (argT (showR d) least))).length ≤ 14 * (l.map (cntN d)).sum := by
  refine Nat.le_trans (joinT_le sep hs _) ?_
  induction l with
  | nil => simp
  | cons q t ih =>
    have h1 := h q (by simp)
    have h2 := ih (fun x hx => h x (by simp [hx]))
    have h3 := argT_le (showR d) least q
    simp only [List.map_cons, List.sum_cons]
    simp only [List.map_map] at h2 ⊢
    omega
theorem show_le : ∀ (d : Nat) (p : RX), sndR d p = true → (showR d p).length + 3 ≤ 14 * cntN d p
  | 0, p, h => by cases h
  | d + 1, .mk op lo hi mn mx l, h => by
    have hk := (snd_node h).2
    have ih : ∀ q ∈ l, (showR d q).length + 3 ≤ 14 * cntN d q := fun q hq => show_le d q (hk q hq)
    have h1 := rngT_le lo hi
    have h2 := bndT_le mn mx
    have a1 := args_le d [124] (by simp) 2 l ih
    have a2 := args_le d [38] (by simp) 3 l ih
    have a3 := args_le d [] (by simp) 4 l ih
    have a5 := args_le d [] (by simp) 5 l ih
    have hc : cntN (d + 1) (.mk op lo hi mn mx l) = 1 + (l.map (cntN d)).sum := by rw [cntN]
    rw [hc]
    rw [showR]
    repeat' split
    all_goals try simp only [List.length_cons, List.length_append, List.length_nil]
    all_goals omega
theorem text_le {p : RX} (h : valR p = true) (hc : cntN 48 p ≤ 9223372036854775807) : (showR 48 p).length ≤ 8000 := by
  obtain ⟨h1, h2⟩ := val_parts h
  rw [cnt_nat 48 p hc] at h2
  have := show_le 48 p h1
  omega
/-- A row of n parts and more has more than n nodes. -/
theorem cnt_pos {d : Nat} {p : RX} (h : 1 ≤ d) : 1 ≤ cntN d p := by
  cases d with
  | zero => omega
  | succ d =>
    cases p
    rw [cntN]
    omega
end Go.Proofs.YtggolmamacoplaaGreatDoor

namespace Go.Proofs.YtggolmamacoplaaGreatDoor
open Go.RowKit
set_option maxRecDepth 100000
set_option maxHeartbeats 1000000

/-- Each byte that is read makes at most two nodes. -/
def Few (D : Nat) (f : List UInt8 → Option (RX × List UInt8)) : Prop := ∀ l p r, f l = some (p, r) → cntN D p + 2 * r.length + 1 ≤ 2 * l.length
theorem cnt_node (D : Nat) (op lo hi mn mx : Int) (l : List RX) (n : Nat) (h : (l.map (cntN (D - 1))).sum ≤ n) : cntN D (.mk op lo hi mn mx l) ≤ 1 + n := by
  cases D with
  | zero => rw [cntN]; omega
  | succ D => rw [cntN]; exact Nat.add_le_add_left h 1
theorem cnt_down : ∀ (D : Nat) (p : RX), cntN (D - 1) p ≤ cntN D p
  | 0, p => Nat.le_refl _
  | 1, p => by
    show cntN 0 p ≤ _
    rw [cntN]
    omega
  | D + 2, .mk op lo hi mn mx l => by
    show cntN (D + 1) _ ≤ _
    rw [cntN, cntN]
    refine Nat.add_le_add_left ?_ 1
    induction l with
    | nil => exact Nat.le_refl _
    | cons a t ih =>
      rw [List.map_cons, List.map_cons, List.sum_cons, List.sum_cons]
      have := cnt_down (D + 1) a
      exact Nat.add_le_add this ih
theorem cnt_leaf (D : Nat) (op lo hi mn mx : Int) : cntN D (.mk op lo hi mn mx []) ≤ 1 := cnt_node D op lo hi mn mx [] 0 (by simp)
theorem cnt_sng (D : Nat) (op lo hi mn mx : Int) (p : RX) : cntN D (.mk op lo hi mn mx [p]) ≤ 1 + cntN D p :=
  cnt_node D op lo hi mn mx [p] _ (by simp only [List.map_cons, List.map_nil, List.sum_cons, List.sum_nil, Nat.add_zero]; exact cnt_down D p)
theorem post_few (D : Nat) : ∀ (f : Nat) (p : RX) (l : List UInt8) (q : RX) (r : List UInt8), postP pgP f p l = some (q, r) → cntN D q + 2 * r.length ≤ cntN D p + 2 * l.length
  | 0, p, l, q, r, h => by rw [postP] at h; cases h
  | f + 1, p, l, q, r, h => by
    rw [postP] at h
    split at h
    · cases h
      exact Nat.le_refl _
    · cases h
    · rename_i mn mx r' e
      have h1 := bnd_eats e
      have h2 := post_few D f _ _ _ _ h
      have h3 := cnt_sng D 5 0 0 mn mx p
      omega
/-- How many nodes a row of parts has. -/
def sumN (D : Nat) (l : List RX) : Nat := (l.map (cntN D)).sum
theorem sumN_snoc (D : Nat) (l : List RX) (p : RX) : sumN D (l ++ [p]) = sumN D l + cntN D p := by
  unfold sumN
  simp
theorem rest_few (D : Nat) (sep : Option UInt8) (one : List UInt8 → Option (RX × List UInt8)) (h1 : Few D one) : ∀ (f : Nat) (acc : List RX) (l : List UInt8) (ps : List RX) (r : List UInt8), restP sep one f acc l = some (ps, r) → sumN D ps + ps.length + 2 * r.length ≤ sumN D acc + acc.length + 2 * l.length ∧ acc.length ≤ ps.length
  | 0, acc, l, ps, r, h => by cases h
  | f + 1, acc, l, ps, r, h => by
    rw [restP] at h
    split at h
    · cases h
      exact ⟨Nat.le_refl _, Nat.le_refl _⟩
    · rename_i l' e
      have hl := more_le e
      split at h
      · cases h
      · rename_i p r' e2
        have h2 := h1 _ _ _ e2
        have h3 := rest_few D sep one h1 f _ _ _ _ h
        rw [sumN_snoc, List.length_append] at h3
        simp only [List.length_cons, List.length_nil] at h3
        omega
theorem join_few (D : Nat) (op : Int) (ps : List RX) (h : 1 ≤ ps.length) : cntN D (joinP op ps) + 1 ≤ sumN D ps + ps.length := by
  match ps, h with
  | [p], _ =>
    show cntN D p + 1 ≤ _
    unfold sumN
    simp
  | p :: q :: t, _ =>
    show cntN D (.mk op 0 0 0 0 (p :: q :: t)) + 1 ≤ _
    have h1 : ((p :: q :: t).map (cntN (D - 1))).sum ≤ sumN D (p :: q :: t) := by
      unfold sumN
      generalize p :: q :: t = l
      induction l with
      | nil => exact Nat.le_refl _
      | cons a t ih =>
        rw [List.map_cons, List.map_cons, List.sum_cons, List.sum_cons]
        exact Nat.add_le_add (cnt_down D a) ih
    have h2 := cnt_node D op 0 0 0 0 (p :: q :: t) _ h1
    simp only [List.length_cons]
    omega
theorem inf_few (D : Nat) (op : Int) (sep : Option UInt8) {one : List UInt8 → Option (RX × List UInt8)} (h1 : Few D one) : Few D (infP op sep one) := by
  intro l p r h
  unfold infP at h
  split at h
  · cases h
  · rename_i q r1 e1
    have h2 := h1 _ _ _ e1
    split at h
    · cases h
    · rename_i ps r2 e2
      obtain ⟨h3, h4⟩ := rest_few D sep one h1 _ _ _ _ _ e2
      have h5 := join_few D op ps (by simpa using h4)
      cases h
      have h6 : sumN D [q] = cntN D q := by unfold sumN; simp
      rw [h6] at h3
      simp only [List.length_cons, List.length_nil] at h3
      omega
theorem atom_few (D : Nat) (sub : Option (List UInt8 → Option (RX × List UInt8))) (h1 : ∀ f, sub = some f → Few D f) : Few D (atomP pgP sub) := by
  intro l p r h
  cases l with
  | nil => cases h
  | cons c t =>
    rw [List.length_cons]
    unfold atomP at h
    dsimp only at h
    split at h
    · split at h
      · cases h
        have := cnt_leaf D 1 0 0 0 0
        rw [List.length_drop]
        omega
      · split at h
        · cases h
        · rename_i f
          split at h
          · cases h
          · rename_i q r1 e1
            have h2 := h1 _ rfl _ _ _ e1
            rw [Option.map_eq_some_iff] at h
            obtain ⟨r2, e2, e3⟩ := h
            have h3 := need_eats e2
            cases e3
            omega
    split at h
    · split at h
      · cases h
        have := cnt_leaf D 0 0 0 0 0
        rw [List.length_drop]
        omega
      · split at h
        · cases h
        · rename_i lo t1 e1
          have h2 := one_eats _ _ _ e1
          split at h
          · cases h
          · rename_i t2 e2
            have h3 := need_eats e2
            split at h
            · cases h
            · rename_i hi t3 e3
              have h4 := one_eats _ _ _ e3
              rw [Option.map_eq_some_iff] at h
              obtain ⟨r2, e4, e5⟩ := h
              have h5 := need_eats e4
              have := cnt_leaf D 2 lo hi 0 0
              cases e5
              unfold rngR
              omega
    split at h
    · cases h
      have := cnt_leaf D 2 (0 : Nat) (255 : Nat) 0 0
      unfold rngR
      omega
    · rw [Option.map_eq_some_iff] at h
      obtain ⟨⟨b, r2⟩, e4, e5⟩ := h
      have h5 := one_eats (c :: t) _ _ e4
      rw [List.length_cons] at h5
      have := cnt_leaf D 2 b b 0 0
      have e6 : rngR b b = p := congrArg Prod.fst e5
      have e7 : r2 = r := congrArg Prod.snd e5
      rw [← e6, ← e7]
      unfold rngR
      omega
theorem pre_few (D : Nat) : ∀ n, Few D (preP pgP n)
  | 0 => by
    intro l p r h
    rw [preP] at h
    split at h
    · cases h
    · rw [Option.bind_eq_some_iff] at h
      obtain ⟨⟨q, r1⟩, e1, e2⟩ := h
      have h1 := atom_few D none (fun f h => by cases h) _ _ _ e1
      have h2 := post_few D _ _ _ _ _ e2
      omega
  | n + 1 => by
    intro l p r h
    have ih := pre_few D n
    rw [preP] at h
    split at h
    · rw [Option.map_eq_some_iff] at h
      obtain ⟨⟨q, r1⟩, e1, e2⟩ := h
      have h1 := ih _ _ _ e1
      rw [List.length_drop] at h1
      have h2 := cnt_sng D 7 0 0 0 0 q
      cases e2
      unfold sngR
      omega
    · rw [Option.bind_eq_some_iff] at h
      obtain ⟨⟨q, r1⟩, e1, e2⟩ := h
      have h1 := atom_few D (some (inf1 (preP pgP n))) (fun f h => by cases h; exact inf_few D 4 _ (inf_few D 6 _ (inf_few D 3 _ ih))) _ _ _ e1
      have h2 := post_few D _ _ _ _ _ e2
      omega
theorem inf1_few (D n : Nat) : Few D (inf1 (preP pgP n)) := inf_few D 4 _ (inf_few D 6 _ (inf_few D 3 _ (pre_few D n)))
end Go.Proofs.YtggolmamacoplaaGreatDoor
