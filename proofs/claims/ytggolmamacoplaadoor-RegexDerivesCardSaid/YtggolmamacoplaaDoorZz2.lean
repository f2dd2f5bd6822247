/- How big a derivative is: plain words, no program in sight. Conditions: sound patterns. -/
import Derived.Test.YtggolmamacoplaaDoorZz1
namespace Go.Proofs.YtggolmamacoplaaDoor
open Go.RowKit
set_option maxRecDepth 100000
set_option maxHeartbeats 1000000

theorem val_parts {p : RX} (h : valR p = true) : sndR 48 p = true ∧ cntR 48 p ≤ 512 := by
  unfold valR at h
  rw [Bool.and_eq_true, decide_eq_true_eq] at h
  exact h
theorem mat_iff (p : RX) (s : List UInt8) : matR p s = true ↔ valR p = true ∧ memR s 48 p 0 s.length := by
  unfold matR
  rw [Bool.and_eq_true, decide_eq_true_eq]
  constructor
  · rintro ⟨h1, h2⟩
    obtain ⟨i, hi, hm⟩ := ((ends_finds s 48 p (val_parts h1).1).mem [0] (by simp) (by simp) _).1 h2
    rw [List.mem_singleton.1 hi] at hm
    exact ⟨h1, hm⟩
  · rintro ⟨h1, h2⟩
    exact ⟨h1, ((ends_finds s 48 p (val_parts h1).1).mem [0] (by simp) (by simp) _).2 ⟨0, by simp, h2⟩⟩

/-! How many nodes there are. -/
def cntN : Nat → RX → Nat
  | 0, _ => 0
  | d + 1, .mk _ _ _ _ _ l => 1 + (l.map (cntN d)).sum
theorem wrap_small (n : Int) (h1 : -9223372036854775808 ≤ n) (h2 : n ≤ 9223372036854775807) : wrap64 n = n := by
  unfold wrap64
  omega
theorem fold_cnt (f : RX → Int) (g : RX → Nat) : ∀ (l : List RX) (n : Nat), (∀ a ∈ l, f a = g a) → n + (l.map g).sum ≤ 9223372036854775807 → l.foldl (fun n a => wrap64 (n + f a)) (n : Int) = ((n + (l.map g).sum : Nat) : Int)
  | [], n, _, _ => by simp
  | a :: t, n, h, hb => by
    have hs : ((a :: t).map g).sum = g a + (t.map g).sum := by simp
    rw [hs] at hb ⊢
    rw [List.foldl_cons, h a List.mem_cons_self, wrap_small _ (by omega) (by omega)]
    have := fold_cnt f g t (n + g a) (fun x hx => h x (List.mem_cons_of_mem _ hx)) (by omega)
    rw [show ((n : Int) + (g a : Int)) = ((n + g a : Nat) : Int) by omega, this]
    congr 1
    omega
theorem sum_le_of_mem {g : RX → Nat} : ∀ {l : List RX} {a : RX}, a ∈ l → g a ≤ (l.map g).sum
  | b :: t, a, h => by
    have hs : ((b :: t).map g).sum = g b + (t.map g).sum := by simp
    rw [hs]
    rcases List.mem_cons.1 h with rfl | h
    · omega
    · have := sum_le_of_mem (g := g) h
      omega
theorem cnt_nat : ∀ (d : Nat) (p : RX), cntN d p ≤ 9223372036854775807 → cntR d p = (cntN d p : Int)
  | 0, p, _ => rfl
  | d + 1, .mk op lo hi mn mx l, h => by
    rw [cntN] at h ⊢
    rw [cntR]
    exact fold_cnt (cntR d) (cntN d) l 1 (fun a ha => cnt_nat d a (by have := sum_le_of_mem (g := cntN d) ha; omega)) (by omega)

/-! Literals. -/
/-! Reversed patterns. -/
theorem catM_app (f : List (Nat → Nat → Prop)) : ∀ (g : List (Nat → Nat → Prop)) (i j : Nat), catM (f ++ g) i j ↔ ∃ k, catM f i k ∧ catM g k j := by
  induction f with
  | nil => intro g i j; exact ⟨fun h => ⟨i, rfl, h⟩, fun ⟨k, h1, h2⟩ => by cases h1; exact h2⟩
  | cons a f ih =>
    intro g i j
    constructor
    · rintro ⟨k, h1, h2⟩
      obtain ⟨m, h3, h4⟩ := (ih g k j).1 h2
      exact ⟨m, ⟨k, h1, h3⟩, h4⟩
    · rintro ⟨m, ⟨k, h1, h3⟩, h4⟩
      exact ⟨k, h1, (ih g k j).2 ⟨m, h3, h4⟩⟩
theorem rng1_lt {s : List UInt8} {lo hi : Int} {i : Nat} (h : rng1 s lo hi i = true) : i < s.length := by
  unfold rng1 at h
  split at h
  · cases h
  · rename_i c hc
    exact (List.getElem?_eq_some_iff.1 hc).1
end Go.Proofs.YtggolmamacoplaaDoor

namespace Go.Proofs.YtggolmamacoplaaDoor
open Go.RowKit
set_option maxRecDepth 100000
set_option maxHeartbeats 2000000

theorem snd_mono : ∀ (d : Nat) (p : RX), sndR d p = true → sndR (d + 1) p = true
  | 0, p, h => by cases h
  | d + 1, .mk op lo hi mn mx l, h => by
    obtain ⟨hf, hl⟩ := snd_node h
    rw [sndR, Bool.and_eq_true, List.all_eq_true]
    exact ⟨hf, fun q hq => snd_mono d q (hl q hq)⟩
theorem snd_le {d e : Nat} (h : d ≤ e) {p : RX} (hp : sndR d p = true) : sndR e p = true := by
  induction h with
  | refl => exact hp
  | step _ ih => exact snd_mono _ p ih
theorem mem_mono (s : List UInt8) : ∀ (d : Nat) (p : RX), sndR d p = true → memR s (d + 1) p = memR s d p
  | 0, p, h => by cases h
  | d + 1, .mk op lo hi mn mx l, h => by
    obtain ⟨hf, hl⟩ := snd_node h
    have ih : ∀ q ∈ l, memR s (d + 1) q = memR s d q := fun q hq => mem_mono s d q (hl q hq)
    funext i j
    rw [memR, memR]
    have e1 : l.map (memR s (d + 1)) = l.map (memR s d) := List.map_congr_left ih
    have e2 : (∃ q ∈ l, memR s (d + 1) q i j) = ∃ q ∈ l, memR s d q i j := by
      apply propext
      constructor
      · rintro ⟨q, hq, h⟩
        exact ⟨q, hq, by rw [← ih q hq]; exact h⟩
      · rintro ⟨q, hq, h⟩
        exact ⟨q, hq, by rw [ih q hq]; exact h⟩
    have e3 : (∀ q ∈ l, memR s (d + 1) q i j) = ∀ q ∈ l, memR s d q i j := by
      apply propext
      constructor
      · intro h q hq
        rw [← ih q hq]
        exact h q hq
      · intro h q hq
        rw [ih q hq]
        exact h q hq
    have e4 : (∀ q ∈ l, ¬ memR s (d + 1) q i j) = ∀ q ∈ l, ¬ memR s d q i j := by
      apply propext
      constructor
      · intro h q hq
        rw [← ih q hq]
        exact h q hq
      · intro h q hq
        rw [ih q hq]
        exact h q hq
    have e5 : (∃ q, l = [q] ∧ ∃ n : Nat, mn ≤ n ∧ (mx < 0 ∨ (n : Int) ≤ mx) ∧ powM (memR s (d + 1) q) n i j) = ∃ q, l = [q] ∧ ∃ n : Nat, mn ≤ n ∧ (mx < 0 ∨ (n : Int) ≤ mx) ∧ powM (memR s d q) n i j := by
      apply propext
      constructor
      · rintro ⟨q, rfl, g⟩
        rw [ih q List.mem_cons_self] at g
        exact ⟨q, rfl, g⟩
      · rintro ⟨q, rfl, g⟩
        rw [← ih q List.mem_cons_self] at g
        exact ⟨q, rfl, g⟩
    rw [e1, e2, e3, e4, e5]
theorem mem_le (s : List UInt8) {d e : Nat} (h : d ≤ e) {p : RX} (hp : sndR d p = true) : memR s e p = memR s d p := by
  induction h with
  | refl => rfl
  | step hle ih => rw [mem_mono s _ p (snd_le hle hp), ih]
theorem mem6 (s : List UInt8) (d : Nat) (l : List RX) (i j : Nat) : memR s (d + 1) (.mk 6 0 0 0 0 l) i j ↔ i ≤ j ∧ j ≤ s.length ∧ ∀ q ∈ l, memR s d q i j := by simp [memR]
theorem mem7 (s : List UInt8) (d : Nat) (l : List RX) (i j : Nat) : memR s (d + 1) (.mk 7 0 0 0 0 l) i j ↔ i ≤ j ∧ j ≤ s.length ∧ ∀ q ∈ l, ¬ memR s d q i j := by simp [memR]
/-- What is matched depends on the bytes between alone. -/
def Local (f g : Nat → Nat → Prop) (i i' n : Nat) : Prop := ∀ a b, a ≤ b → b ≤ n → (f (i + a) (i + b) ↔ g (i' + a) (i' + b))
theorem cat_local {N N' i i' n : Nat} (hN : i + n ≤ N) (hN' : i' + n ≤ N') : ∀ (ps : List ((Nat → Nat → Prop) × (Nat → Nat → Prop))), (∀ p ∈ ps, Local p.1 p.2 i i' n ∧ (∀ a b, a ≤ N → p.1 a b → a ≤ b ∧ b ≤ N) ∧ (∀ a b, a ≤ N' → p.2 a b → a ≤ b ∧ b ≤ N')) → Local (catM (ps.map (·.1))) (catM (ps.map (·.2))) i i' n ∧ (∀ a b, a ≤ N → catM (ps.map (·.1)) a b → a ≤ b ∧ b ≤ N) ∧ (∀ a b, a ≤ N' → catM (ps.map (·.2)) a b → a ≤ b ∧ b ≤ N')
  | [], _ => ⟨fun a b h1 h2 => by show i + a = i + b ↔ i' + a = i' + b; omega, fun a b h1 h2 => by cases h2; omega, fun a b h1 h2 => by cases h2; omega⟩
  | p :: t, h => by
    obtain ⟨p1, p2, p3⟩ := h p List.mem_cons_self
    obtain ⟨t1, t2, t3⟩ := cat_local hN hN' t (fun x hx => h x (List.mem_cons_of_mem _ hx))
    refine ⟨fun a b h1 h2 => ⟨?_, ?_⟩, ?_, ?_⟩
    · rintro ⟨k, g1, g2⟩
      have x := p2 _ _ (by omega) g1
      have y := t2 _ _ x.2 g2
      obtain ⟨c, rfl⟩ : ∃ c, k = i + c := ⟨k - i, by omega⟩
      exact ⟨i' + c, (p1 a c (by omega) (by omega)).1 g1, (t1 c b (by omega) h2).1 g2⟩
    · rintro ⟨k, g1, g2⟩
      have x := p3 _ _ (by omega) g1
      have y := t3 _ _ x.2 g2
      obtain ⟨c, rfl⟩ : ∃ c, k = i' + c := ⟨k - i', by omega⟩
      exact ⟨i + c, (p1 a c (by omega) (by omega)).2 g1, (t1 c b (by omega) h2).2 g2⟩
    · rintro a b ha ⟨k, g1, g2⟩
      have x := p2 _ _ ha g1
      have y := t2 _ _ x.2 g2
      omega
    · rintro a b ha ⟨k, g1, g2⟩
      have x := p3 _ _ ha g1
      have y := t3 _ _ x.2 g2
      omega
theorem pow_rep (f : Nat → Nat → Prop) : ∀ n i j, powM f n i j ↔ catM (List.replicate n f) i j
  | 0, i, j => Iff.rfl
  | n + 1, i, j => by
    rw [List.replicate_succ]
    constructor
    · rintro ⟨k, h1, h2⟩
      exact ⟨k, h1, (pow_rep f n k j).1 h2⟩
    · rintro ⟨k, h1, h2⟩
      exact ⟨k, h1, (pow_rep f n k j).2 h2⟩
theorem mem_local (s t : List UInt8) (i i' n : Nat) (hs : i + n ≤ s.length) (ht : i' + n ≤ t.length) (hst : ∀ k, k < n → s[i + k]? = t[i' + k]?) : ∀ (d : Nat) (p : RX), sndR d p = true → Local (memR s d p) (memR t d p) i i' n
  | 0, p, h => by cases h
  | d + 1, .mk op lo hi mn mx l, h => by
    obtain ⟨hf, hl⟩ := snd_node h
    have ih : ∀ q ∈ l, Local (memR s d q) (memR t d q) i i' n := fun q hq => mem_local s t i i' n hs ht hst d q (hl q hq)
    have f1 : ∀ q ∈ l, ∀ a b, a ≤ s.length → memR s d q a b → a ≤ b ∧ b ≤ s.length := fun q hq => (ends_finds s d q (hl q hq)).le
    have f2 : ∀ q ∈ l, ∀ a b, a ≤ t.length → memR t d q a b → a ≤ b ∧ b ≤ t.length := fun q hq => (ends_finds t d q (hl q hq)).le
    intro a b h1 h2
    rcases form_ways hf with ⟨h0, hn0, rfl, rfl, rfl, rfl⟩ | ⟨rfl, hn0, g1, g2, g3, rfl, rfl⟩ | ⟨h0, hn0, rfl, rfl, rfl, rfl⟩ | ⟨rfl, hn0, rfl, rfl, g1, g2, g3⟩ | ⟨rfl, hn0, rfl, rfl, rfl, rfl⟩
    · rcases h0 with rfl | rfl
      · simp [memR]
      · simp [memR]
    · simp [memR]
      constructor
      · rintro ⟨e, hr⟩
        refine ⟨by omega, ?_⟩
        unfold rng1 at hr ⊢
        rw [← hst a (by omega)]
        exact hr
      · rintro ⟨e, hr⟩
        refine ⟨by omega, ?_⟩
        unfold rng1 at hr ⊢
        rw [hst a (by omega)]
        exact hr
    · rcases h0 with rfl | rfl | rfl
      · have key := (cat_local hs ht (l.map fun q => (memR s d q, memR t d q)) (by
          intro p hp
          obtain ⟨q, hq, rfl⟩ := List.mem_map.1 hp
          exact ⟨ih q hq, f1 q hq, f2 q hq⟩)).1 a b h1 h2
        rw [List.map_map, List.map_map] at key
        simpa [memR, Function.comp_def] using key
      · simp [memR]
        constructor
        · rintro ⟨q, hq, hm⟩
          exact ⟨q, hq, (ih q hq a b h1 h2).1 hm⟩
        · rintro ⟨q, hq, hm⟩
          exact ⟨q, hq, (ih q hq a b h1 h2).2 hm⟩
      · rw [mem6, mem6]
        constructor
        · rintro ⟨-, -, hm⟩
          exact ⟨by omega, by omega, fun q hq => (ih q hq a b h1 h2).1 (hm q hq)⟩
        · rintro ⟨-, -, hm⟩
          exact ⟨by omega, by omega, fun q hq => (ih q hq a b h1 h2).2 (hm q hq)⟩
    · obtain ⟨q, rfl⟩ := List.length_eq_one_iff.1 hn0
      have hpow : ∀ m, powM (memR s d q) m (i + a) (i + b) ↔ powM (memR t d q) m (i' + a) (i' + b) := by
        intro m
        rw [pow_rep, pow_rep]
        have key := (cat_local hs ht (List.replicate m (memR s d q, memR t d q)) (by
          intro p hp
          rw [(List.mem_replicate.1 hp).2]
          exact ⟨ih q List.mem_cons_self, f1 q List.mem_cons_self, f2 q List.mem_cons_self⟩)).1 a b h1 h2
        rw [List.map_replicate, List.map_replicate] at key
        exact key
      simp [memR]
      constructor
      · rintro ⟨m, e1, e2, hm⟩
        exact ⟨m, e1, e2, (hpow m).1 hm⟩
      · rintro ⟨m, e1, e2, hm⟩
        exact ⟨m, e1, e2, (hpow m).2 hm⟩
    · obtain ⟨q, rfl⟩ := List.length_eq_one_iff.1 hn0
      have hq := ih q List.mem_cons_self a b h1 h2
      rw [mem7, mem7, List.forall_mem_singleton, List.forall_mem_singleton]
      constructor
      · rintro ⟨-, -, hm⟩
        exact ⟨by omega, by omega, fun h => hm (hq.2 h)⟩
      · rintro ⟨-, -, hm⟩
        exact ⟨by omega, by omega, fun h => hm (hq.1 h)⟩
end Go.Proofs.YtggolmamacoplaaDoor

namespace Go.Proofs.YtggolmamacoplaaDoor
open Go.RowKit
set_option maxRecDepth 100000
set_option maxHeartbeats 2000000

theorem mem_op0 (s : List UInt8) (d : Nat) (p : RX) (h : p.op = 0) (i j : Nat) : ¬ memR s d p i j := by
  obtain ⟨op, lo, hi, mn, mx, l⟩ := p
  obtain rfl : op = 0 := h
  cases d <;> simp [memR]
theorem mem_op1 (s : List UInt8) (d : Nat) (p : RX) (h : p.op = 1) (i j : Nat) : memR s (d + 1) p i j ↔ i = j := by
  obtain ⟨op, lo, hi, mn, mx, l⟩ := p
  obtain rfl : op = 1 := h
  simp [memR]
theorem mem3 (s : List UInt8) (d : Nat) (l : List RX) (i j : Nat) : memR s (d + 1) (.mk 3 0 0 0 0 l) i j ↔ catM (l.map (memR s d)) i j := by simp [memR]
theorem mem4 (s : List UInt8) (d : Nat) (l : List RX) (i j : Nat) : memR s (d + 1) (.mk 4 0 0 0 0 l) i j ↔ ∃ q ∈ l, memR s d q i j := by simp [memR]
theorem mem5 (s : List UInt8) (d : Nat) (mn mx : Int) (q : RX) (i j : Nat) : memR s (d + 1) (.mk 5 0 0 mn mx [q]) i j ↔ ∃ n : Nat, mn ≤ n ∧ (mx < 0 ∨ (n : Int) ≤ mx) ∧ powM (memR s d q) n i j := by simp [memR]
theorem catM_none (f : Nat → Nat → Prop) (hf : ∀ i j, ¬ f i j) (a b : List (Nat → Nat → Prop)) (i j : Nat) : ¬ catM (a ++ f :: b) i j := by
  rw [catM_app]
  rintro ⟨k, -, m, h, -⟩
  exact hf _ _ h
theorem catM_skip (f : Nat → Nat → Prop) (hf : ∀ i j, f i j ↔ i = j) (a b : List (Nat → Nat → Prop)) (i j : Nat) : catM (a ++ f :: b) i j ↔ catM (a ++ b) i j := by
  rw [catM_app, catM_app]
  constructor
  · rintro ⟨k, h1, m, h2, h3⟩
    rw [hf] at h2
    exact ⟨k, h1, by rw [h2]; exact h3⟩
  · rintro ⟨k, h1, h3⟩
    exact ⟨k, h1, k, (hf k k).2 rfl, h3⟩
theorem few_sem (s : List UInt8) (K : Nat) (l : List RX) (hK : sndR K (fewR 3 l empR) = true) (i j : Nat) : memR s K (fewR 3 l empR) i j ↔ catM (l.map (memR s K)) i j := by
  obtain ⟨K, rfl⟩ : ∃ m, K = m + 1 := ⟨K - 1, by have := snd_pos hK; omega⟩
  match l, hK with
  | [], _ => exact mem_op1 s K empR rfl i j
  | [q], _ =>
    show memR s (K + 1) q i j ↔ ∃ k, memR s (K + 1) q i k ∧ k = j
    constructor
    · intro h
      exact ⟨j, h, rfl⟩
    · rintro ⟨k, h, rfl⟩
      exact h
  | q0 :: q1 :: qs, hK =>
    have hl := (snd_node (show sndR (K + 1) (.mk 3 0 0 0 0 (q0 :: q1 :: qs)) = true from hK)).2
    show memR s (K + 1) (.mk 3 0 0 0 0 (q0 :: q1 :: qs)) i j ↔ _
    rw [mem3]
    rw [show (q0 :: q1 :: qs).map (memR s (K + 1)) = (q0 :: q1 :: qs).map (memR s K) from List.map_congr_left fun q hq => mem_mono s K q (hl q hq)]
theorem cat_sem (s : List UInt8) (K : Nat) : ∀ (l acc : List RX), sndR K (catD l acc) = true → ∀ i j, (memR s K (catD l acc) i j ↔ catM ((acc ++ l).map (memR s K)) i j)
  | [], acc, hK, i, j => by
    rw [List.append_nil]
    exact few_sem s K acc hK i j
  | a :: t, acc, hK, i, j => by
    have hK1 := snd_pos hK
    rw [catD] at hK ⊢
    by_cases h0 : a.op = 0
    · rw [if_pos h0, List.map_append, List.map_cons]
      exact iff_of_false (mem_op0 s K a h0 i j) (catM_none _ (fun i j => mem_op0 s K a h0 i j) _ _ i j)
    rw [if_neg h0] at hK ⊢
    by_cases h1 : a.op = 1
    · rw [if_pos h1] at hK ⊢
      rw [cat_sem s K t acc hK i j, List.map_append, List.map_append, List.map_cons]
      obtain ⟨K, rfl⟩ : ∃ m, K = m + 1 := ⟨K - 1, by omega⟩
      exact (catM_skip _ (fun i j => mem_op1 s K a h1 i j) _ _ i j).symm
    · rw [if_neg h1] at hK ⊢
      rw [cat_sem s K t (acc ++ [a]) hK i j, List.append_assoc]
      rfl
theorem alt_sem (s : List UInt8) (K : Nat) (l : List RX) (hK : sndR K (altD l) = true) (i j : Nat) : memR s K (altD l) i j ↔ ∃ q ∈ l, memR s K q i j := by
  obtain ⟨K, rfl⟩ : ∃ m, K = m + 1 := ⟨K - 1, by have := snd_pos hK; omega⟩
  have hf : (∃ q ∈ l, memR s (K + 1) q i j) ↔ ∃ q ∈ l.filter fun a => decide (a.op ≠ 0), memR s (K + 1) q i j := by
    constructor
    · rintro ⟨q, hq, hm⟩
      exact ⟨q, List.mem_filter.2 ⟨hq, decide_eq_true (fun h => mem_op0 s _ q h i j hm)⟩, hm⟩
    · rintro ⟨q, hq, hm⟩
      exact ⟨q, (List.mem_filter.1 hq).1, hm⟩
  rw [hf]
  unfold altD at hK ⊢
  generalize l.filter (fun a => decide (a.op ≠ 0)) = m at *
  match m, hK with
  | [], _ =>
    refine iff_of_false (mem_op0 s _ nonR rfl i j) ?_
    rintro ⟨q, hq, -⟩
    cases hq
  | [q], _ =>
    show memR s (K + 1) q i j ↔ _
    simp
  | q0 :: q1 :: qs, hK =>
    have hl := (snd_node (show sndR (K + 1) (.mk 4 0 0 0 0 (q0 :: q1 :: qs)) = true from hK)).2
    show memR s (K + 1) (.mk 4 0 0 0 0 (q0 :: q1 :: qs)) i j ↔ _
    rw [mem4]
    constructor
    · rintro ⟨q, hq, hm⟩
      exact ⟨q, hq, by rw [mem_mono s K q (hl q hq)]; exact hm⟩
    · rintro ⟨q, hq, hm⟩
      exact ⟨q, hq, by rw [mem_mono s K q (hl q hq)] at hm; exact hm⟩
theorem and_sem (s : List UInt8) (K : Nat) (l : List RX) (hK : sndR K (andD l) = true) (i j : Nat) (hij : i ≤ j) (hj : j ≤ s.length) : memR s K (andD l) i j ↔ ∀ q ∈ l, memR s K q i j := by
  obtain ⟨K, rfl⟩ : ∃ m, K = m + 1 := ⟨K - 1, by have := snd_pos hK; omega⟩
  unfold andD at hK ⊢
  cases hx : l.find? (fun a => decide (a.op = 0)) with
  | some a =>
    have h0 : a.op = 0 := by
      have := List.find?_some hx
      simpa using this
    have hm := List.mem_of_find?_eq_some hx
    exact iff_of_false (mem_op0 s _ a h0 i j) (fun h => mem_op0 s _ a h0 i j (h a hm))
  | none =>
    rw [hx] at hK
    have hl := (snd_node hK).2
    show memR s (K + 1) (.mk 6 0 0 0 0 l) i j ↔ _
    rw [mem6]
    constructor
    · rintro ⟨-, -, h⟩ q hq
      rw [mem_mono s K q (hl q hq)]
      exact h q hq
    · intro h
      refine ⟨hij, hj, fun q hq => ?_⟩
      rw [← mem_mono s K q (hl q hq)]
      exact h q hq
/-- A None and an Empty are leaves. -/
def Leaf0 (p : RX) : Prop := p.op = 0 ∨ p.op = 1 → sndR 1 p = true
theorem leaf_snd {d : Nat} {p : RX} (h : sndR d p = true) : Leaf0 p := by
  intro h0
  obtain ⟨op, lo, hi, mn, mx, l⟩ := p
  have h0' : op = 0 ∨ op = 1 := h0
  rcases d with _ | d
  · cases h
  obtain ⟨hf, -⟩ := snd_node h
  rcases form_ways hf with ⟨-, hn, rfl, rfl, rfl, rfl⟩ | ⟨h, -⟩ | ⟨h, -⟩ | ⟨h, -⟩ | ⟨h, -⟩
  · obtain rfl := List.length_eq_zero_iff.1 hn
    rcases h0' with rfl | rfl <;> rfl
  · omega
  · omega
  · omega
  · omega
theorem few_leaf (op : Int) (hop : op ≠ 0 ∧ op ≠ 1) (l : List RX) (z : RX) (hl : ∀ q ∈ l, Leaf0 q) (hz : Leaf0 z) : Leaf0 (fewR op l z) := by
  match l, hl with
  | [], _ => exact hz
  | [q], hl => exact hl q List.mem_cons_self
  | q0 :: q1 :: qs, _ => exact fun h => h.elim (fun h => absurd h hop.1) (fun h => absurd h hop.2)
theorem cat_leaf : ∀ (l acc : List RX), (∀ q ∈ l, Leaf0 q) → (∀ q ∈ acc, Leaf0 q) → Leaf0 (catD l acc)
  | [], acc, _, ha => few_leaf 3 (by decide) acc empR ha (fun _ => rfl)
  | a :: t, acc, hl, ha => by
    rw [catD]
    split
    · exact hl a List.mem_cons_self
    split
    · exact cat_leaf t acc (fun q hq => hl q (List.mem_cons_of_mem _ hq)) ha
    · refine cat_leaf t (acc ++ [a]) (fun q hq => hl q (List.mem_cons_of_mem _ hq)) (fun q hq => ?_)
      rcases List.mem_append.1 hq with h | h
      · exact ha q h
      · rw [List.mem_singleton.1 h]
        exact hl a List.mem_cons_self
theorem non_leaf : Leaf0 nonR := fun _ => rfl
theorem alt_leaf (l : List RX) (hl : ∀ q ∈ l, Leaf0 q) : Leaf0 (altD l) :=
  few_leaf 4 (by decide) _ nonR (fun q hq => hl q (List.mem_filter.1 hq).1) non_leaf
theorem ways_leaf (nul : RX → Bool) (der : RX → RX) : ∀ (l : List RX), (∀ q ∈ l, Leaf0 q ∧ Leaf0 (der q)) → ∀ w ∈ waysD nul der l, Leaf0 w
  | [], _, w, hw => by cases hw
  | a :: t, hl, w, hw => by
    rw [waysD] at hw
    rcases List.mem_cons.1 hw with rfl | hw
    · refine cat_leaf _ _ (fun q hq => ?_) (fun q hq => by cases hq)
      rcases List.mem_cons.1 hq with rfl | hq
      · exact (hl a List.mem_cons_self).2
      · exact (hl q (List.mem_cons_of_mem _ hq)).1
    · split at hw
      · exact ways_leaf nul der t (fun q hq => hl q (List.mem_cons_of_mem _ hq)) w hw
      · cases hw
theorem der_leaf (b : Int) : ∀ (d : Nat) (p : RX), sndR d p = true → Leaf0 (derR b d p)
  | 0, p, h => by cases h
  | d + 1, .mk op lo hi mn mx l, h => by
    obtain ⟨hf, hl⟩ := snd_node h
    have ih : ∀ q ∈ l, Leaf0 (derR b d q) := fun q hq => der_leaf b d q (hl q hq)
    rw [derR]
    split
    · split
      · exact fun _ => rfl
      · exact non_leaf
    split
    · exact alt_leaf _ (ways_leaf _ _ l (fun q hq => ⟨leaf_snd (hl q hq), ih q hq⟩))
    split
    · refine alt_leaf _ (fun q hq => ?_)
      obtain ⟨a, ha, rfl⟩ := List.mem_map.1 hq
      exact ih a ha
    split
    · unfold andD
      cases hx : (l.map (derR b d)).find? (fun a => decide (a.op = 0)) with
      | some a =>
        obtain ⟨c, hc, rfl⟩ := List.mem_map.1 (List.mem_of_find?_eq_some hx)
        exact ih c hc
      | none => exact fun h => h.elim (fun h => absurd (show (6 : Int) = 0 from h) (by decide)) (fun h => absurd (show (6 : Int) = 1 from h) (by decide))
    split
    · exact fun h => h.elim (fun h => absurd (show (7 : Int) = 0 from h) (by decide)) (fun h => absurd (show (7 : Int) = 1 from h) (by decide))
    split
    · unfold repD
      split
      · exact non_leaf
      · rename_i a u
        split
        · exact non_leaf
        · refine cat_leaf _ _ (fun q hq => ?_) (fun q hq => by cases hq)
          simp only [List.mem_cons, List.not_mem_nil, or_false] at hq
          rcases hq with rfl | rfl
          · exact ih a List.mem_cons_self
          · split
            · exact fun _ => rfl
            · exact fun h => h.elim (fun h => absurd (show (5 : Int) = 0 from h) (by decide)) (fun h => absurd (show (5 : Int) = 1 from h) (by decide))
    · exact non_leaf
theorem few_parts {op : Int} (_hop : op = 3 ∨ op = 4) {K : Nat} {l : List RX} {z : RX} (h : sndR K (fewR op l z) = true) : ∀ q ∈ l, sndR K q = true := by
  match l, h with
  | [], _ => intro q hq; cases hq
  | [a], h =>
    intro q hq
    rw [List.mem_singleton.1 hq]
    exact h
  | a :: c :: t, h =>
    obtain ⟨K, rfl⟩ : ∃ m, K = m + 1 := ⟨K - 1, by have := snd_pos h; omega⟩
    intro q hq
    exact snd_mono K q ((snd_node (show sndR (K + 1) (.mk op 0 0 0 0 (a :: c :: t)) = true from h)).2 q hq)
theorem snd_one {K : Nat} (hK : 1 ≤ K) {p : RX} (h : sndR 1 p = true) : sndR K p = true := snd_le hK h
/-- The parts of a sound alternative are sound. -/
theorem alt_parts {K : Nat} {l : List RX} (h : sndR K (altD l) = true) (hl : ∀ q ∈ l, Leaf0 q) : ∀ q ∈ l, sndR K q = true := by
  intro q hq
  by_cases h0 : q.op = 0
  · exact snd_one (snd_pos h) (hl q hq (.inl h0))
  · exact few_parts (.inr rfl) h q (List.mem_filter.2 ⟨hq, decide_eq_true h0⟩)
theorem and_parts {K : Nat} {l : List RX} (h : sndR K (andD l) = true) (hn : ∀ q ∈ l, q.op ≠ 0) : ∀ q ∈ l, sndR K q = true := by
  unfold andD at h
  cases hx : l.find? (fun a => decide (a.op = 0)) with
  | some a =>
    have h0 : a.op = 0 := by
      have := List.find?_some hx
      simpa using this
    exact absurd h0 (hn a (List.mem_of_find?_eq_some hx))
  | none =>
    rw [hx] at h
    obtain ⟨K, rfl⟩ : ∃ m, K = m + 1 := ⟨K - 1, by have := snd_pos h; omega⟩
    intro q hq
    exact snd_mono K q ((snd_node h).2 q hq)
/-- The parts of a sound concatenation without a None are sound, but for the empty ones. -/
theorem cat_parts {K : Nat} : ∀ {l acc : List RX}, sndR K (catD l acc) = true → (∀ q ∈ l, q.op ≠ 0) → (∀ q ∈ acc, sndR K q = true) ∧ ∀ q ∈ l, q.op = 1 ∨ sndR K q = true
  | [], acc, h, _ => ⟨few_parts (.inl rfl) h, fun q hq => by cases hq⟩
  | a :: t, acc, h, hn => by
    have h0 := hn a List.mem_cons_self
    have hn' : ∀ q ∈ t, q.op ≠ 0 := fun q hq => hn q (List.mem_cons_of_mem _ hq)
    rw [catD, if_neg h0] at h
    by_cases h1 : a.op = 1
    · rw [if_pos h1] at h
      obtain ⟨g1, g2⟩ := cat_parts h hn'
      refine ⟨g1, fun q hq => ?_⟩
      rcases List.mem_cons.1 hq with rfl | hq
      · exact .inl h1
      · exact g2 q hq
    · rw [if_neg h1] at h
      obtain ⟨g1, g2⟩ := cat_parts h hn'
      refine ⟨fun q hq => g1 q (List.mem_append_left _ hq), fun q hq => ?_⟩
      rcases List.mem_cons.1 hq with rfl | hq
      · exact .inr (g1 q (by simp))
      · exact g2 q hq
end Go.Proofs.YtggolmamacoplaaDoor

namespace Go.Proofs.YtggolmamacoplaaDoor
open Go.RowKit
set_option maxRecDepth 100000
set_option maxHeartbeats 2000000

theorem cnt_mono : ∀ (d : Nat) (p : RX), sndR d p = true → cntN (d + 1) p = cntN d p
  | 0, p, h => by cases h
  | d + 1, .mk op lo hi mn mx l, h => by
    obtain ⟨hf, hl⟩ := snd_node h
    rw [cntN, cntN, show l.map (cntN (d + 1)) = l.map (cntN d) from List.map_congr_left fun q hq => cnt_mono d q (hl q hq)]
theorem cnt_le {d e : Nat} (h : d ≤ e) {p : RX} (hp : sndR d p = true) : cntN e p = cntN d p := by
  induction h with
  | refl => rfl
  | step hle ih => rw [cnt_mono _ p (snd_le hle hp), ih]
/-- A part of a valid pattern matches the empty string: anywhere. -/
theorem nul_any (d : Nat) (hd : d ≤ 48) (q : RX) (hq : sndR d q = true) (hc : cntN d q ≤ 512) (s : List UInt8) (x : Nat) (hx : x ≤ s.length) : matR q [] = true ↔ memR s d q x x := by
  have hv : valR q = true := by
    unfold valR
    rw [snd_le hd hq, cnt_nat 48 q (by rw [cnt_le hd hq]; omega), cnt_le hd hq, Bool.true_and, decide_eq_true_eq]
    omega
  rw [mat_iff, hv]
  simp only [true_and, List.length_nil]
  rw [mem_le [] hd hq]
  have := mem_local [] s 0 x 0 (Nat.le_refl _) hx (fun k hk => absurd hk (Nat.not_lt_zero _)) d q hq 0 0 (Nat.le_refl _) (Nat.le_refl _)
  simpa using this
/-- One byte on. -/
theorem mem_shift (b : UInt8) (s : List UInt8) (d : Nat) (q : RX) (hq : sndR d q = true) (i j : Nat) (hij : i ≤ j) (hj : j ≤ s.length) : memR (b :: s) d q (i + 1) (j + 1) ↔ memR s d q i j := by
  have := mem_local s (b :: s) 0 1 s.length (by omega) (by simp; omega) (fun k hk => by rw [Nat.zero_add, Nat.add_comm 1 k, List.getElem?_cons_succ]) d q hq i j hij hj
  rw [Nat.zero_add, Nat.zero_add, Nat.add_comm 1 i, Nat.add_comm 1 j] at this
  exact this.symm
theorem cat_shift (b : UInt8) (s : List UInt8) (d : Nat) : ∀ (l : List RX), (∀ q ∈ l, sndR d q = true) → ∀ i j, i ≤ j → j ≤ s.length → (catM (l.map (memR (b :: s) d)) (i + 1) (j + 1) ↔ catM (l.map (memR s d)) i j)
  | [], _, i, j, _, _ => by
    show i + 1 = j + 1 ↔ i = j
    omega
  | q :: t, h, i, j, hij, hj => by
    have hq := h q List.mem_cons_self
    have ht : ∀ q ∈ t, sndR d q = true := fun q hq => h q (List.mem_cons_of_mem _ hq)
    have F : Finds s.length (fun l => (t.map fun a => (endsL s d a, memR s d a)).foldl (fun f a => a.1 f) l) (catM ((t.map fun a => (endsL s d a, memR s d a)).map (·.2))) := foldl_cat _ (by
      intro p hp
      obtain ⟨a, ha, rfl⟩ := List.mem_map.1 hp
      exact ends_finds s d a (ht a ha))
    have F' : Finds (b :: s).length (fun l => (t.map fun a => (endsL (b :: s) d a, memR (b :: s) d a)).foldl (fun f a => a.1 f) l) (catM ((t.map fun a => (endsL (b :: s) d a, memR (b :: s) d a)).map (·.2))) := foldl_cat _ (by
      intro p hp
      obtain ⟨a, ha, rfl⟩ := List.mem_map.1 hp
      exact ends_finds (b :: s) d a (ht a ha))
    rw [List.map_map] at F F'
    have hle := F.le
    have hle' := F'.le
    simp only [List.length_cons] at hle'
    constructor
    · rintro ⟨k, g1, g2⟩
      have x := (ends_finds (b :: s) d q hq).le _ _ (by simp; omega) g1
      have y := hle' k (j + 1) (by have := x.2; simpa using this) (by simpa [Function.comp_def] using g2)
      obtain ⟨k, rfl⟩ : ∃ m, k = m + 1 := ⟨k - 1, by omega⟩
      exact ⟨k, (mem_shift b s d q hq i k (by omega) (by omega)).1 g1, (cat_shift b s d t ht k j (by omega) hj).1 g2⟩
    · rintro ⟨k, g1, g2⟩
      have x := (ends_finds s d q hq).le _ _ (by omega) g1
      have y := hle k j x.2 (by simpa [Function.comp_def] using g2)
      exact ⟨k + 1, (mem_shift b s d q hq i k (by omega) (by omega)).2 g1, (cat_shift b s d t ht k j (by omega) hj).2 g2⟩
/-- What the derivative of a part does. -/
def DerOk (b : UInt8) (s : List UInt8) (d : Nat) (q : RX) : Prop := ∀ K, sndR K (derR (b.toNat : Int) d q) = true → ∀ j, j ≤ s.length → (memR s K (derR (b.toNat : Int) d q) 0 j ↔ memR (b :: s) d q 0 (j + 1))
theorem ways_sem (b : UInt8) (s : List UInt8) (d : Nat) (hd : d ≤ 48) (K : Nat) (j : Nat) (hj : j ≤ s.length) : ∀ (l : List RX), (∀ q ∈ l, sndR d q = true ∧ cntN d q ≤ 512 ∧ DerOk b s d q) →
    (∀ w ∈ waysD (fun a => matR a []) (derR (b.toNat : Int) d) l, sndR K w = true) →
    ((∃ w ∈ waysD (fun a => matR a []) (derR (b.toNat : Int) d) l, memR s K w 0 j) ↔ catM (l.map (memR (b :: s) d)) 0 (j + 1))
  | [], _, _ => by
    rw [waysD]
    constructor
    · rintro ⟨w, hw, -⟩
      cases hw
    · intro h
      have : (0 : Nat) = j + 1 := h
      omega
  | a :: t, h, hK => by
    obtain ⟨a1, a2, a3⟩ := h a List.mem_cons_self
    have ht : ∀ q ∈ t, sndR d q = true := fun q hq => (h q (List.mem_cons_of_mem _ hq)).1
    have hK1 : sndR K (catD (derR (b.toNat : Int) d a :: t) []) = true := hK _ (by rw [waysD]; exact List.mem_cons_self)
    have hKt : matR a [] = true → ∀ w ∈ waysD (fun a => matR a []) (derR (b.toNat : Int) d) t, sndR K w = true := by
      intro hn w hw
      refine hK w ?_
      rw [waysD]
      simp only [hn, if_true]
      exact List.mem_cons_of_mem _ hw
    have ih : matR a [] = true → _ := fun hn => ways_sem b s d hd K j hj t (fun q hq => h q (List.mem_cons_of_mem _ hq)) (hKt hn)
    have hfirst : memR s K (catD (derR (b.toNat : Int) d a :: t) []) 0 j ↔ ∃ k, k ≤ j ∧ memR (b :: s) d a 0 (k + 1) ∧ catM (t.map (memR (b :: s) d)) (k + 1) (j + 1) := by
      rw [cat_sem s K _ [] hK1 0 j, List.nil_append, List.map_cons]
      have hleaf := der_leaf (b.toNat : Int) d a a1
      by_cases hn0 : ∃ q ∈ derR (b.toNat : Int) d a :: t, q.op = 0
      · obtain ⟨q, hq, h0⟩ := hn0
        obtain ⟨x, y, hxy⟩ := List.append_of_mem hq
        have hl : (memR s K (derR (b.toNat : Int) d a) :: t.map (memR s K)) = x.map (memR s K) ++ memR s K q :: y.map (memR s K) := by
          have := congrArg (List.map (memR s K)) hxy
          simpa using this
        rw [hl]
        refine iff_of_false (catM_none _ (fun i j => mem_op0 s K q h0 i j) _ _ 0 j) ?_
        rintro ⟨k, hk, g1, g2⟩
        rcases List.mem_cons.1 hq with rfl | hq
        · exact mem_op0 s 1 _ h0 0 k ((a3 1 (hleaf (.inl h0)) k (by omega)).2 g1)
        · obtain ⟨x, y, hxy⟩ := List.append_of_mem hq
          rw [hxy, List.map_append, List.map_cons] at g2
          exact catM_none _ (fun i j => mem_op0 (b :: s) d q h0 i j) _ _ _ _ g2
      have hn0' : ∀ q ∈ derR (b.toNat : Int) d a :: t, q.op ≠ 0 := fun q hq h0 => hn0 ⟨q, hq, h0⟩
      have hpos := snd_pos hK1
      have hparts := (cat_parts hK1 hn0').2
      have hsn : ∀ q ∈ derR (b.toNat : Int) d a :: t, Leaf0 q → sndR K q = true := by
        intro q hq hlf
        rcases hparts q hq with h | h
        · exact snd_one hpos (hlf (.inr h))
        · exact h
      have hda := hsn _ List.mem_cons_self hleaf
      have htK : ∀ q ∈ t, sndR K q = true := fun q hq => hsn q (List.mem_cons_of_mem _ hq) (leaf_snd (ht q hq))
      have htm : t.map (memR s K) = t.map (memR s d) := List.map_congr_left fun q hq => by
        rcases Nat.le_total d K with h | h
        · exact mem_le s h (ht q hq)
        · exact (mem_le s h (htK q hq)).symm
      rw [htm]
      have F : Finds s.length (fun l => (t.map fun a => (endsL s d a, memR s d a)).foldl (fun f a => a.1 f) l) (catM ((t.map fun a => (endsL s d a, memR s d a)).map (·.2))) := foldl_cat _ (by
        intro p hp
        obtain ⟨a, ha, rfl⟩ := List.mem_map.1 hp
        exact ends_finds s d a (ht a ha))
      rw [List.map_map] at F
      have hle := F.le
      constructor
      · rintro ⟨k, g1, g2⟩
        have x := (ends_finds s K _ hda).le _ _ (by omega) g1
        have y := hle k j x.2 (by simpa [Function.comp_def] using g2)
        exact ⟨k, y.1, (a3 K hda k (by omega)).1 g1, (cat_shift b s d t ht k j y.1 hj).2 g2⟩
      · rintro ⟨k, hk, g1, g2⟩
        exact ⟨k, (a3 K hda k (by omega)).2 g1, (cat_shift b s d t ht k j hk hj).1 g2⟩
    have F' : Finds (b :: s).length (fun l => (t.map fun a => (endsL (b :: s) d a, memR (b :: s) d a)).foldl (fun f a => a.1 f) l) (catM ((t.map fun a => (endsL (b :: s) d a, memR (b :: s) d a)).map (·.2))) := foldl_cat _ (by
      intro p hp
      obtain ⟨a, ha, rfl⟩ := List.mem_map.1 hp
      exact ends_finds (b :: s) d a (ht a ha))
    rw [List.map_map] at F'
    have hle' := F'.le
    simp only [List.length_cons] at hle'
    have hnul := nul_any d hd a a1 a2 (b :: s) 0 (by simp)
    constructor
    · rintro ⟨w, hw, hm⟩
      rw [waysD] at hw
      rcases List.mem_cons.1 hw with rfl | hw
      · obtain ⟨k, hk, g1, g2⟩ := hfirst.1 hm
        exact ⟨k + 1, g1, g2⟩
      · by_cases hn : matR a [] = true
        · simp only [hn, if_true] at hw
          exact ⟨0, hnul.1 hn, (ih hn).1 ⟨w, hw, hm⟩⟩
        · simp only [hn, if_false, Bool.false_eq_true] at hw
          cases hw
    · rintro ⟨k, g1, g2⟩
      rcases k with _ | k
      · have hn := hnul.2 g1
        obtain ⟨w, hw, hm⟩ := (ih hn).2 g2
        refine ⟨w, ?_, hm⟩
        rw [waysD]
        simp only [hn, if_true]
        exact List.mem_cons_of_mem _ hw
      · have x := (ends_finds (b :: s) d a a1).le _ _ (by omega) g1
        have y := hle' (k + 1) (j + 1) (by have := x.2; simpa using this) (by simpa [Function.comp_def] using g2)
        refine ⟨_, by rw [waysD]; exact List.mem_cons_self, hfirst.2 ⟨k, by omega, g1, g2⟩⟩
end Go.Proofs.YtggolmamacoplaaDoor

namespace Go.Proofs.YtggolmamacoplaaDoor
open Go.RowKit
set_option maxRecDepth 100000
set_option maxHeartbeats 1000000

theorem byteT_le (b : Nat) : (byteT b).length ≤ 4 := by
  unfold byteT
  split <;> simp
theorem decT_le (n : Nat) : (decT n).length ≤ 3 := by
  unfold decT
  split
  · simp
  · split <;> simp
theorem rngT_le (lo hi : Int) : (rngT lo hi).length ≤ 11 := by
  have h1 := byteT_le lo.toNat
  have h2 := byteT_le hi.toNat
  unfold rngT
  split
  · omega
  · split
    · simp
    · simp only [List.length_cons, List.length_append, List.length_nil]
      omega
theorem bndT_le (mn mx : Int) : (bndT mn mx).length ≤ 9 := by
  have h1 := decT_le mn.toNat
  have h2 := decT_le mx.toNat
  unfold bndT
  repeat' split
  all_goals simp only [List.length_cons, List.length_append, List.length_nil]
  all_goals omega
theorem argT_le (f : RX → List UInt8) (least : Nat) (p : RX) : (argT f least p).length ≤ (f p).length + 2 := by
  unfold argT
  split
  · simp only [List.length_cons, List.length_append, List.length_nil]
    omega
  · omega
theorem joinT_le (sep : List UInt8) (hs : sep.length ≤ 1) : ∀ xs : List (List UInt8), (joinT sep xs).length ≤ (xs.map fun x => x.length + 1).sum
  | [] => by simp [joinT]
  | [x] => by simp [joinT]
  | x :: y :: t => by
    have ih := joinT_le sep hs (y :: t)
    rw [List.map_cons, List.sum_cons]
    show (x ++ (sep ++ joinT sep (y :: t))).length ≤ _
    rw [List.length_append, List.length_append]
    omega
theorem args_le (d : Nat) (sep : List UInt8) (hs : sep.length ≤ 1) (least : Nat) (l : List RX) (h : ∀ q ∈ l, (showR d q).length + 3 ≤ 14 * cntN d q) :
    (joinT sep (l.map (argT (showR d) least))).length ≤ 14 * (l.map (cntN d)).sum := by
  refine Nat.le_trans (joinT_le sep hs _) ?_
  induction l with
  | nil => simp
  | cons q t ih =>
    have h1 := h q (by simp)
    have h2 := ih (fun x hx => h x (by simp [hx]))
    have h3 := argT_le (showR d) least q
    simp only [List.map_cons, List.sum_cons]
    simp only [List.map_map] at h2 ⊢
    omega
theorem show_le : ∀ (d : Nat) (p : RX), sndR d p = true → (showR d p).length + 3 ≤ 14 * cntN d p
  | 0, p, h => by cases h
  | d + 1, .mk op lo hi mn mx l, h => by
    have hk := (snd_node h).2
    have ih : ∀ q ∈ l, (showR d q).length + 3 ≤ 14 * cntN d q := fun q hq => show_le d q (hk q hq)
    have h1 := rngT_le lo hi
    have h2 := bndT_le mn mx
    have a1 := args_le d [124] (by simp) 2 l ih
    have a2 := args_le d [38] (by simp) 3 l ih
    have a3 := args_le d [] (by simp) 4 l ih
    have a5 := args_le d [] (by simp) 5 l ih
    have hc : cntN (d + 1) (.mk op lo hi mn mx l) = 1 + (l.map (cntN d)).sum := by rw [cntN]
    rw [hc]
    rw [showR]
    repeat' split
    all_goals try simp only [List.length_cons, List.length_append, List.length_nil]
    all_goals omega
theorem text_le {p : RX} (h : valR p = true) (hc : cntN 48 p ≤ 9223372036854775807) : (showR 48 p).length ≤ 8000 := by
  obtain ⟨h1, h2⟩ := val_parts h
  rw [cnt_nat 48 p hc] at h2
  have := show_le 48 p h1
  omega
/-- A row of n parts and more has more than n nodes. -/
theorem cnt_pos {d : Nat} {p : RX} (h : 1 ≤ d) : 1 ≤ cntN d p := by
  cases d with
  | zero => omega
  | succ d =>
    cases p
    rw [cntN]
    omega
end Go.Proofs.YtggolmamacoplaaDoor

namespace Go.Proofs.YtggolmamacoplaaDoor
open Go.RowKit
set_option maxRecDepth 100000
set_option maxHeartbeats 1000000

/-- Each byte that is read makes at most two nodes. -/
def Few (D : Nat) (f : List UInt8 → Option (RX × List UInt8)) : Prop := ∀ l p r, f l = some (p, r) → cntN D p + 2 * r.length + 1 ≤ 2 * l.length
theorem cnt_node (D : Nat) (op lo hi mn mx : Int) (l : List RX) (n : Nat) (h : (l.map (cntN (D - 1))).sum ≤ n) : cntN D (.mk op lo hi mn mx l) ≤ 1 + n := by
  cases D with
  | zero => rw [cntN]; omega
  | succ D => rw [cntN]; exact Nat.add_le_add_left h 1
theorem cnt_down : ∀ (D : Nat) (p : RX), cntN (D - 1) p ≤ cntN D p
  | 0, p => Nat.le_refl _
  | 1, p => by
    show cntN 0 p ≤ _
    rw [cntN]
    omega
  | D + 2, .mk op lo hi mn mx l => by
    show cntN (D + 1) _ ≤ _
    rw [cntN, cntN]
    refine Nat.add_le_add_left ?_ 1
    induction l with
    | nil => exact Nat.le_refl _
    | cons a t ih =>
      rw [List.map_cons, List.map_cons, List.sum_cons, List.sum_cons]
      have := cnt_down (D + 1) a
      exact Nat.add_le_add this ih
theorem cnt_leaf (D : Nat) (op lo hi mn mx : Int) : cntN D (.mk op lo hi mn mx []) ≤ 1 := cnt_node D op lo hi mn mx [] 0 (by simp)
theorem cnt_sng (D : Nat) (op lo hi mn mx : Int) (p : RX) : cntN D (.mk op lo hi mn mx [p]) ≤ 1 + cntN D p :=
  cnt_node D op lo hi mn mx [p] _ (by simp only [List.map_cons, List.map_nil, List.sum_cons, List.sum_nil, Nat.add_zero]; exact cnt_down D p)
theorem post_few (D : Nat) : ∀ (f : Nat) (p : RX) (l : List UInt8) (q : RX) (r : List UInt8), postP pgP f p l = some (q, r) → cntN D q + 2 * r.length ≤ cntN D p + 2 * l.length
  | 0, p, l, q, r, h => by rw [postP] at h; cases h
  | f + 1, p, l, q, r, h => by
    rw [postP] at h
    split at h
    · cases h
      exact Nat.le_refl _
    · cases h
    · rename_i mn mx r' e
      have h1 := bnd_eats e
      have h2 := post_few D f _ _ _ _ h
      have h3 := cnt_sng D 5 0 0 mn mx p
      omega
/-- How many nodes a row of parts has. -/
def sumN (D : Nat) (l : List RX) : Nat := (l.map (cntN D)).sum
theorem sumN_snoc (D : Nat) (l : List RX) (p : RX) : sumN D (l ++ [p]) = sumN D l + cntN D p := by
  unfold sumN
  simp
theorem rest_few (D : Nat) (sep : Option UInt8) (one : List UInt8 → Option (RX × List UInt8)) (h1 : Few D one) : ∀ (f : Nat) (acc : List RX) (l : List UInt8) (ps : List RX) (r : List UInt8), restP sep one f acc l = some (ps, r) → sumN D ps + ps.length + 2 * r.length ≤ sumN D acc + acc.length + 2 * l.length ∧ acc.length ≤ ps.length
  | 0, acc, l, ps, r, h => by cases h
  | f + 1, acc, l, ps, r, h => by
    rw [restP] at h
    split at h
    · cases h
      exact ⟨Nat.le_refl _, Nat.le_refl _⟩
    · rename_i l' e
      have hl := more_le e
      split at h
      · cases h
      · rename_i p r' e2
        have h2 := h1 _ _ _ e2
        have h3 := rest_few D sep one h1 f _ _ _ _ h
        rw [sumN_snoc, List.length_append] at h3
        simp only [List.length_cons, List.length_nil] at h3
        omega
theorem join_few (D : Nat) (op : Int) (ps : List RX) (h : 1 ≤ ps.length) : cntN D (joinP op ps) + 1 ≤ sumN D ps + ps.length := by
  match ps, h with
  | [p], _ =>
    show cntN D p + 1 ≤ _
    unfold sumN
    simp
  | p :: q :: t, _ =>
    show cntN D (.mk op 0 0 0 0 (p :: q :: t)) + 1 ≤ _
    have h1 : ((p :: q :: t).map (cntN (D - 1))).sum ≤ sumN D (p :: q :: t) := by
      unfold sumN
      generalize p :: q :: t = l
      induction l with
      | nil => exact Nat.le_refl _
      | cons a t ih =>
        rw [List.map_cons, List.map_cons, List.sum_cons, List.sum_cons]
        exact Nat.add_le_add (cnt_down D a) ih
    have h2 := cnt_node D op 0 0 0 0 (p :: q :: t) _ h1
    simp only [List.length_cons]
    omega
theorem inf_few (D : Nat) (op : Int) (sep : Option UInt8) {one : List UInt8 → Option (RX × List UInt8)} (h1 : Few D one) : Few D (infP op sep one) := by
  intro l p r h
  unfold infP at h
  split at h
  · cases h
  · rename_i q r1 e1
    have h2 := h1 _ _ _ e1
    split at h
    · cases h
    · rename_i ps r2 e2
      obtain ⟨h3, h4⟩ := rest_few D sep one h1 _ _ _ _ _ e2
      have h5 := join_few D op ps (by simpa using h4)
      cases h
      have h6 : sumN D [q] = cntN D q := by unfold sumN; simp
      rw [h6] at h3
      simp only [List.length_cons, List.length_nil] at h3
      omega
theorem atom_few (D : Nat) (sub : Option (List UInt8 → Option (RX × List UInt8))) (h1 : ∀ f, sub = some f → Few D f) : Few D (atomP pgP sub) := by
  intro l p r h
  cases l with
  | nil => cases h
  | cons c t =>
    rw [List.length_cons]
    unfold atomP at h
    dsimp only at h
    split at h
    · split at h
      · cases h
        have := cnt_leaf D 1 0 0 0 0
        rw [List.length_drop]
        omega
      · split at h
        · cases h
        · rename_i f
          split at h
          · cases h
          · rename_i q r1 e1
            have h2 := h1 _ rfl _ _ _ e1
            rw [Option.map_eq_some_iff] at h
            obtain ⟨r2, e2, e3⟩ := h
            have h3 := need_eats e2
            cases e3
            omega
    split at h
    · split at h
      · cases h
        have := cnt_leaf D 0 0 0 0 0
        rw [List.length_drop]
        omega
      · split at h
        · cases h
        · rename_i lo t1 e1
          have h2 := one_eats _ _ _ e1
          split at h
          · cases h
          · rename_i t2 e2
            have h3 := need_eats e2
            split at h
            · cases h
            · rename_i hi t3 e3
              have h4 := one_eats _ _ _ e3
              rw [Option.map_eq_some_iff] at h
              obtain ⟨r2, e4, e5⟩ := h
              have h5 := need_eats e4
              have := cnt_leaf D 2 lo hi 0 0
              cases e5
              unfold rngR
              omega
    split at h
    · cases h
      have := cnt_leaf D 2 (0 : Nat) (255 : Nat) 0 0
      unfold rngR
      omega
    · rw [Option.map_eq_some_iff] at h
      obtain ⟨⟨b, r2⟩, e4, e5⟩ := h
      have h5 := one_eats (c :: t) _ _ e4
      rw [List.length_cons] at h5
      have := cnt_leaf D 2 b b 0 0
      have e6 : rngR b b = p := congrArg Prod.fst e5
      have e7 : r2 = r := congrArg Prod.snd e5
      rw [← e6, ← e7]
      unfold rngR
      omega
theorem pre_few (D : Nat) : ∀ n, Few D (preP pgP n)
  | 0 => by
    intro l p r h
    rw [preP] at h
    split at h
    · cases h
    · rw [Option.bind_eq_some_iff] at h
      obtain ⟨⟨q, r1⟩, e1, e2⟩ := h
      have h1 := atom_few D none (fun f h => by cases h) _ _ _ e1
      have h2 := post_few D _ _ _ _ _ e2
      omega
  | n + 1 => by
    intro l p r h
    have ih := pre_few D n
    rw [preP] at h
    split at h
    · rw [Option.map_eq_some_iff] at h
      obtain ⟨⟨q, r1⟩, e1, e2⟩ := h
      have h1 := ih _ _ _ e1
      rw [List.length_drop] at h1
      have h2 := cnt_sng D 7 0 0 0 0 q
      cases e2
      unfold sngR
      omega
    · rw [Option.bind_eq_some_iff] at h
      obtain ⟨⟨q, r1⟩, e1, e2⟩ := h
      have h1 := atom_few D (some (inf1 (preP pgP n))) (fun f h => by cases h; exact inf_few D 4 _ (inf_few D 6 _ (inf_few D 3 _ ih))) _ _ _ e1
      have h2 := post_few D _ _ _ _ _ e2
      omega
theorem inf1_few (D n : Nat) : Few D (inf1 (preP pgP n)) := inf_few D 4 _ (inf_few D 6 _ (inf_few D 3 _ (pre_few D n)))
end Go.Proofs.YtggolmamacoplaaDoor

namespace Go.Proofs.YtggolmamacoplaaDoor
open Go.RowKit
open Classical
set_option maxRecDepth 100000
set_option maxHeartbeats 1000000

/-- The offsets that M reaches from those of F. -/
def img (n : Nat) (F : Nat → Prop) (M : Nat → Nat → Prop) (j : Nat) : Prop := ∃ i, i ≤ n ∧ F i ∧ M i j
/-- The same up to n. -/
def EqS (n : Nat) (F G : Nat → Prop) : Prop := ∀ j, j ≤ n → (F j ↔ G j)
def powS (n : Nat) (F : Nat → Prop) (M : Nat → Nat → Prop) (k : Nat) : Nat → Prop := img n F (powM M k)
/-- What the rounds from mn to mn + t reach. -/
def outS (n : Nat) (F : Nat → Prop) (M : Nat → Nat → Prop) (mn t : Nat) (j : Nat) : Prop := ∃ m, mn ≤ m ∧ m ≤ mn + t ∧ powS n F M m j
theorem pow_leM {n : Nat} {M : Nat → Nat → Prop} (h : ∀ i j, i ≤ n → M i j → i ≤ j ∧ j ≤ n) : ∀ k i j, i ≤ n → powM M k i j → i ≤ j ∧ j ≤ n
  | 0, i, j, hi, e => by cases e; exact ⟨Nat.le_refl _, hi⟩
  | k + 1, i, j, hi, ⟨x, h1, h2⟩ => by
    have a := h i x hi h1
    have b := pow_leM h k x j a.2 h2
    omega
theorem powS_zero {n : Nat} {F : Nat → Prop} {M : Nat → Nat → Prop} : EqS n (powS n F M 0) F := fun j hj => ⟨fun ⟨i, _, h, e⟩ => by cases e; exact h, fun h => ⟨j, hj, h, rfl⟩⟩
theorem powS_succ {n : Nat} {F : Nat → Prop} {M : Nat → Nat → Prop} (h : ∀ i j, i ≤ n → M i j → i ≤ j ∧ j ≤ n) (k : Nat) (j : Nat) : powS n F M (k + 1) j ↔ img n (powS n F M k) M j := by
  constructor
  · rintro ⟨i, hi, hF, hp⟩
    obtain ⟨x, h1, h2⟩ := (powM_snoc M k i j).1 hp
    exact ⟨x, (pow_leM h k i x hi h1).2, ⟨i, hi, hF, h1⟩, h2⟩
  · rintro ⟨x, hx, ⟨i, hi, hF, h1⟩, h2⟩
    exact ⟨i, hi, hF, (powM_snoc M k i j).2 ⟨x, h1, h2⟩⟩
theorem powS_stays {n : Nat} {F : Nat → Prop} {M : Nat → Nat → Prop} (h : ∀ i j, i ≤ n → M i j → i ≤ j ∧ j ≤ n) {k : Nat} (he : EqS n (powS n F M (k + 1)) (powS n F M k)) : ∀ t, EqS n (powS n F M (k + t)) (powS n F M k)
  | 0, j, _ => Iff.rfl
  | t + 1, j, hj => by
    have ih := powS_stays h he t
    rw [← Nat.add_assoc, powS_succ h, ← he j hj, powS_succ h]
    constructor
    · rintro ⟨x, hx, h1, h2⟩
      exact ⟨x, hx, (ih x hx).1 h1, h2⟩
    · rintro ⟨x, hx, h1, h2⟩
      exact ⟨x, hx, (ih x hx).2 h1, h2⟩
theorem outS_zero {n : Nat} {F : Nat → Prop} {M : Nat → Nat → Prop} {mn : Nat} (j : Nat) : outS n F M mn 0 j ↔ powS n F M mn j :=
  ⟨fun ⟨m, h1, h2, h3⟩ => by obtain rfl : m = mn := by omega
                             exact h3, fun h => ⟨mn, Nat.le_refl _, Nat.le_refl _, h⟩⟩
theorem outS_succ {n : Nat} {F : Nat → Prop} {M : Nat → Nat → Prop} {mn t : Nat} (j : Nat) : outS n F M mn (t + 1) j ↔ outS n F M mn t j ∨ powS n F M (mn + (t + 1)) j := by
  constructor
  · rintro ⟨m, h1, h2, h3⟩
    by_cases he : m = mn + (t + 1)
    · subst he
      exact .inr h3
    · exact .inl ⟨m, h1, by omega, h3⟩
  · rintro (⟨m, h1, h2, h3⟩ | h)
    · exact ⟨m, h1, by omega, h3⟩
    · exact ⟨_, by omega, Nat.le_refl _, h⟩
/-- Once a round adds nothing no later one does. -/
theorem outS_closed {n : Nat} {F : Nat → Prop} {M : Nat → Nat → Prop} (h : ∀ i j, i ≤ n → M i j → i ≤ j ∧ j ≤ n) {mn t : Nat} (he : EqS n (outS n F M mn (t + 1)) (outS n F M mn t)) : ∀ m, mn ≤ m → ∀ j, j ≤ n → powS n F M m j → outS n F M mn t j
  | m, hm, j, hj, hp => by
    by_cases h1 : m ≤ mn + (t + 1)
    · exact (he j hj).1 ⟨m, hm, h1, hp⟩
    · obtain ⟨m, rfl⟩ : ∃ k, m = k + 1 := ⟨m - 1, by omega⟩
      obtain ⟨x, hx, h2, h3⟩ := (powS_succ h m j).1 hp
      obtain ⟨m', a1, a2, a3⟩ := outS_closed h he m (by omega) x hx h2
      exact (he j hj).1 ⟨m' + 1, by omega, by omega, (powS_succ h m' j).2 ⟨x, hx, a3, h3⟩⟩
/-- How many offsets up to n a set has. -/
noncomputable def cardS (n : Nat) (F : Nat → Prop) : Nat := ((List.range (n + 1)).filter fun j => decide (F j)).length
theorem cardS_le (n : Nat) (F : Nat → Prop) : cardS n F ≤ n + 1 := by
  have := List.length_filter_le (fun j => decide (F j)) (List.range (n + 1))
  simpa [cardS] using this
theorem filter_lt (F G : Nat → Prop) : ∀ (l : List Nat), (∀ j ∈ l, F j → G j) → (l.filter fun j => decide (F j)).length ≤ (l.filter fun j => decide (G j)).length ∧ ((∃ j ∈ l, G j ∧ ¬ F j) → (l.filter fun j => decide (F j)).length < (l.filter fun j => decide (G j)).length)
  | [], _ => ⟨Nat.le_refl _, fun ⟨_, h, _⟩ => by cases h⟩
  | a :: t, h => by
    obtain ⟨h1, h2⟩ := filter_lt F G t (fun j hj => h j (List.mem_cons_of_mem _ hj))
    have ha := h a List.mem_cons_self
    rw [List.filter_cons, List.filter_cons]
    by_cases hF : F a
    · have hG := ha hF
      simp only [hF, hG, decide_true, if_true, List.length_cons]
      refine ⟨by omega, ?_⟩
      rintro ⟨j, hj, g1, g2⟩
      rcases List.mem_cons.1 hj with rfl | hj
      · exact absurd hF g2
      · have := h2 ⟨j, hj, g1, g2⟩
        omega
    · by_cases hG : G a
      · simp only [hF, hG, decide_true, decide_false, if_true, Bool.false_eq_true, if_false, List.length_cons]
        exact ⟨by omega, fun _ => by omega⟩
      · simp only [hF, hG, decide_false, Bool.false_eq_true, if_false]
        refine ⟨h1, ?_⟩
        rintro ⟨j, hj, g1, g2⟩
        rcases List.mem_cons.1 hj with rfl | hj
        · exact absurd g1 hG
        · exact h2 ⟨j, hj, g1, g2⟩
/-- A round that adds something adds one at least. -/
theorem cardS_lt {n : Nat} {F G : Nat → Prop} (h : ∀ j, j ≤ n → F j → G j) (hne : ¬ EqS n G F) : cardS n F < cardS n G := by
  refine (filter_lt F G (List.range (n + 1)) (fun j hj => h j (by have := List.mem_range.1 hj; omega))).2 ?_
  refine Classical.byContradiction fun hc => hne fun j hj => ⟨fun hg => Classical.byContradiction fun hf => hc ⟨j, List.mem_range.2 (by omega), hg, hf⟩, h j hj⟩
theorem memR5 (s : List UInt8) (d : Nat) (lo hi mn mx : Int) (q : RX) (i j : Nat) : memR s (d + 1) (.mk 5 lo hi mn mx [q]) i j ↔ ∃ n : Nat, mn ≤ n ∧ (mx < 0 ∨ (n : Int) ≤ mx) ∧ powM (memR s d q) n i j := by simp [memR]
/-- The repetition is done: the greatest bound is reached, or nothing was added. -/
theorem rep_done (s : List UInt8) (d : Nat) (lo hi mn mx : Int) (q : RX) (F : Nat → Prop) (t : Nat) (hmn : 0 ≤ mn)
    (hle : ∀ i j, i ≤ s.length → memR s d q i j → i ≤ j ∧ j ≤ s.length)
    (h : (0 ≤ mx ∧ mn + t = mx) ∨ ((mx < 0 ∨ mn + t < mx) ∧ EqS s.length (outS s.length F (memR s d q) mn.toNat (t + 1)) (outS s.length F (memR s d q) mn.toNat t))) :
    EqS s.length (outS s.length F (memR s d q) mn.toNat t) (img s.length F (memR s (d + 1) (.mk 5 lo hi mn mx [q]))) := by
  intro j hj
  constructor
  · rintro ⟨m, h1, h2, i, hi', hF, hp⟩
    exact ⟨i, hi', hF, (memR5 s d lo hi mn mx q i j).2 ⟨m, by omega, by omega, hp⟩⟩
  · rintro ⟨i, hi', hF, hm⟩
    obtain ⟨m, h1, h2, hp⟩ := (memR5 s d lo hi mn mx q i j).1 hm
    rcases h with ⟨h3, h4⟩ | ⟨h3, h4⟩
    · exact ⟨m, by omega, by omega, i, hi', hF, hp⟩
    · exact outS_closed hle h4 m (by omega) j hj ⟨i, hi', hF, hp⟩
/-- Below the least bound the rounds are done: that bound is reached, or nothing was turned. -/
theorem low_done {n : Nat} {F : Nat → Prop} {M : Nat → Nat → Prop} (h : ∀ i j, i ≤ n → M i j → i ≤ j ∧ j ≤ n) {k mn : Nat} (hk : k ≤ mn) (he : k = mn ∨ EqS n (powS n F M (k + 1)) (powS n F M k)) : EqS n (powS n F M k) (powS n F M mn) := by
  rcases he with rfl | he
  · exact fun _ _ => Iff.rfl
  · intro j hj
    have := powS_stays h he (mn - k) j hj
    rw [show k + (mn - k) = mn by omega] at this
    exact this.symm
end Go.Proofs.YtggolmamacoplaaDoor

namespace Go.Proofs.YtggolmamacoplaaDoor
open Go.RowKit
set_option maxRecDepth 100000
set_option maxHeartbeats 2000000

theorem pow_first {N : Nat} {M : Nat → Nat → Prop} (hle : ∀ i j, i ≤ N → M i j → i ≤ j ∧ j ≤ N) (hnul : ∀ x, x ≤ N → (M 0 0 ↔ M x x)) (j : Nat) : ∀ n, powM M n 0 (j + 1) → ∃ k m, k + 1 ≤ N ∧ M 0 (k + 1) ∧ m + 1 = n ∧ powM M m (k + 1) (j + 1)
  | 0, h => by cases h
  | n + 1, ⟨k0, h1, h2⟩ => by
    rcases k0 with _ | k
    · obtain ⟨k, m, g0, g1, g2, g3⟩ := pow_first hle hnul j n h2
      exact ⟨k, m + 1, g0, g1, by omega, ⟨k + 1, (hnul _ g0).1 h1, g3⟩⟩
    · exact ⟨k, n, (hle _ _ (by omega) h1).2, h1, rfl, h2⟩
theorem pow_shift (b : UInt8) (s : List UInt8) (d : Nat) (a : RX) (ha : sndR d a = true) (n i j : Nat) (hij : i ≤ j) (hj : j ≤ s.length) : powM (memR (b :: s) d a) n (i + 1) (j + 1) ↔ powM (memR s d a) n i j := by
  rw [pow_rep, pow_rep]
  have := cat_shift b s d (List.replicate n a) (fun q hq => by rw [List.eq_of_mem_replicate hq]; exact ha) i j hij hj
  simpa using this
theorem mem_same (s : List UInt8) {d e : Nat} {p : RX} (hd : sndR d p = true) (he : sndR e p = true) : memR s d p = memR s e p := by
  rcases Nat.le_total d e with h | h
  · exact (mem_le s h hd).symm
  · exact mem_le s h he
/-- What is left of a repetition behind a byte. -/
def restD (lo hi mn mx : Int) (l : List RX) : RX := if mx = 1 then empR else .mk 5 lo hi (if mn - 1 < 0 then 0 else mn - 1) (if 1 < mx then mx - 1 else mx) l
theorem rest_sem (s : List UInt8) (d K : Nat) (mn mx : Int) (a : RX) (ha : sndR d a = true) (hK : sndR K (restD 0 0 mn mx [a]) = true) (h0 : mx ≠ 0) (h1 : mx = -1 ∨ (mn ≤ mx ∧ mx ≤ 64)) (hmn : 0 ≤ mn) (k j : Nat) :
    memR s K (restD 0 0 mn mx [a]) k j ↔ ∃ m : Nat, mn ≤ ((m + 1 : Nat) : Int) ∧ (mx < 0 ∨ ((m + 1 : Nat) : Int) ≤ mx) ∧ powM (memR s d a) m k j := by
  obtain ⟨K, rfl⟩ : ∃ m, K = m + 1 := ⟨K - 1, by have := snd_pos hK; omega⟩
  unfold restD at hK ⊢
  by_cases hm : mx = 1
  · rw [if_pos hm, mem_op1 s K empR rfl]
    constructor
    · rintro rfl
      exact ⟨0, by omega, .inr (by omega), rfl⟩
    · rintro ⟨m, h2, h3, h4⟩
      obtain rfl : m = 0 := by omega
      exact h4
  · rw [if_neg hm] at hK ⊢
    rw [mem5, mem_same s ((snd_node hK).2 a (by simp)) ha]
    constructor
    · rintro ⟨n, h2, h3, h4⟩
      refine ⟨n, ?_, ?_, h4⟩
      · split at h2 <;> omega
      · split at h3 <;> omega
    · rintro ⟨n, h2, h3, h4⟩
      refine ⟨n, ?_, ?_, h4⟩
      · split <;> omega
      · split <;> omega
theorem der_sem (b : UInt8) (s : List UInt8) : ∀ (d : Nat), d ≤ 48 → ∀ p, sndR d p = true → cntN d p ≤ 512 → DerOk b s d p
  | 0, _, p, h, _ => by cases h
  | d + 1, hd, .mk op lo hi mn mx l, h, hc => by
    obtain ⟨hf, hl⟩ := snd_node h
    have hcl : ∀ q ∈ l, cntN d q ≤ 512 := fun q hq => by
      have h1 := sum_le_of_mem (g := cntN d) hq
      rw [cntN] at hc
      omega
    have ih : ∀ q ∈ l, DerOk b s d q := fun q hq => der_sem b s d (by omega) q (hl q hq) (hcl q hq)
    have hleaf : ∀ q ∈ l, Leaf0 (derR (b.toNat : Int) d q) := fun q hq => der_leaf _ d q (hl q hq)
    intro K hK j hj
    rcases form_ways hf with ⟨h0 | h0, hn, rfl, rfl, rfl, rfl⟩ | ⟨rfl, hn, h1, h2, h3, rfl, rfl⟩ | ⟨rfl | rfl | rfl, hn, rfl, rfl, rfl, rfl⟩ | ⟨rfl, hn, rfl, rfl, h1, h2, h3⟩ | ⟨rfl, hn, rfl, rfl, rfl, rfl⟩
    · subst h0
      exact iff_of_false (by rw [show derR (b.toNat : Int) (d + 1) (.mk 0 0 0 0 0 l) = nonR by simp [derR]]; exact mem_op0 s K nonR rfl _ _) (mem_op0 (b :: s) _ _ rfl _ _)
    · subst h0
      refine iff_of_false (by rw [show derR (b.toNat : Int) (d + 1) (.mk 1 0 0 0 0 l) = nonR by simp [derR]]; exact mem_op0 s K nonR rfl _ _) ?_
      rw [mem_op1 (b :: s) _ _ rfl]
      omega
    · have hR : memR (b :: s) (d + 1) (.mk 2 lo hi 0 0 l) 0 (j + 1) ↔ j = 0 ∧ lo ≤ (b.toNat : Int) ∧ (b.toNat : Int) ≤ hi := by
        simp [memR, rng1]
      rw [hR]
      have hder : derR (b.toNat : Int) (d + 1) (.mk 2 lo hi 0 0 l) = if lo ≤ (b.toNat : Int) ∧ (b.toNat : Int) ≤ hi then empR else nonR := by simp [derR]
      rw [hder] at hK ⊢
      by_cases hb : lo ≤ (b.toNat : Int) ∧ (b.toNat : Int) ≤ hi
      · rw [if_pos hb] at hK ⊢
        obtain ⟨K, rfl⟩ : ∃ m, K = m + 1 := ⟨K - 1, by have := snd_pos hK; omega⟩
        rw [mem_op1 s K empR rfl]
        exact ⟨fun h => ⟨h.symm, hb⟩, fun h => h.1.symm⟩
      · rw [if_neg hb] at hK ⊢
        exact iff_of_false (mem_op0 s K nonR rfl _ _) (fun h => hb h.2)
    · have hder : derR (b.toNat : Int) (d + 1) (.mk 3 0 0 0 0 l) = altD (waysD (fun a => matR a []) (derR (b.toNat : Int) d) l) := by simp [derR]
      rw [hder] at hK ⊢
      have hw := alt_parts hK (ways_leaf _ _ l (fun q hq => ⟨leaf_snd (hl q hq), hleaf q hq⟩))
      rw [alt_sem s K _ hK, mem3]
      exact ways_sem b s d (by omega) K j hj l (fun q hq => ⟨hl q hq, hcl q hq, ih q hq⟩) hw
    · have hder : derR (b.toNat : Int) (d + 1) (.mk 4 0 0 0 0 l) = altD (l.map (derR (b.toNat : Int) d)) := by simp [derR]
      rw [hder] at hK ⊢
      have hw := alt_parts hK (fun q hq => by obtain ⟨a, ha, rfl⟩ := List.mem_map.1 hq; exact hleaf a ha)
      rw [alt_sem s K _ hK, mem4]
      constructor
      · rintro ⟨q, hq, hm⟩
        obtain ⟨a, ha, rfl⟩ := List.mem_map.1 hq
        exact ⟨a, ha, (ih a ha K (hw _ hq) j hj).1 hm⟩
      · rintro ⟨a, ha, hm⟩
        have hq := List.mem_map_of_mem (f := derR (b.toNat : Int) d) ha
        exact ⟨_, hq, (ih a ha K (hw _ hq) j hj).2 hm⟩
    · have hder : derR (b.toNat : Int) (d + 1) (.mk 6 0 0 0 0 l) = andD (l.map (derR (b.toNat : Int) d)) := by simp [derR]
      rw [hder] at hK ⊢
      rw [and_sem s K _ hK 0 j (by omega) hj, mem6]
      have hone : ∀ a ∈ l, (derR (b.toNat : Int) d a).op = 0 → ¬ memR (b :: s) d a 0 (j + 1) := fun a ha h0 hm => mem_op0 s 1 _ h0 0 j ((ih a ha 1 (hleaf a ha (.inl h0)) j hj).2 hm)
      by_cases hn0 : ∃ a ∈ l, (derR (b.toNat : Int) d a).op = 0
      · obtain ⟨a, ha, h0⟩ := hn0
        exact iff_of_false (fun h => mem_op0 s K _ h0 0 j (h _ (List.mem_map_of_mem ha))) (fun h => hone a ha h0 (h.2.2 a ha))
      · have hn0' : ∀ q ∈ l.map (derR (b.toNat : Int) d), q.op ≠ 0 := fun q hq h0 => by obtain ⟨a, ha, rfl⟩ := List.mem_map.1 hq; exact hn0 ⟨a, ha, h0⟩
        have hw := and_parts hK hn0'
        constructor
        · intro h
          refine ⟨by omega, by simp; omega, fun a ha => ?_⟩
          have hq := List.mem_map_of_mem (f := derR (b.toNat : Int) d) ha
          exact (ih a ha K (hw _ hq) j hj).1 (h _ hq)
        · rintro ⟨-, -, h⟩ q hq
          obtain ⟨a, ha, rfl⟩ := List.mem_map.1 hq
          exact (ih a ha K (hw _ hq) j hj).2 (h a ha)
    · obtain ⟨a, rfl⟩ := List.length_eq_one_iff.1 hn
      have haS := hl a (by simp)
      have hle := (ends_finds (b :: s) d a haS).le
      have hnul := fun x hx => (nul_any d (by omega) a haS (hcl a (by simp)) (b :: s) 0 (by simp)).symm.trans (nul_any d (by omega) a haS (hcl a (by simp)) (b :: s) x hx)
      have hR : memR (b :: s) (d + 1) (.mk 5 0 0 mn mx [a]) 0 (j + 1) ↔ ∃ k, k ≤ j ∧ memR (b :: s) d a 0 (k + 1) ∧ ∃ m : Nat, mn ≤ ((m + 1 : Nat) : Int) ∧ (mx < 0 ∨ ((m + 1 : Nat) : Int) ≤ mx) ∧ powM (memR s d a) m k j := by
        rw [mem5]
        constructor
        · rintro ⟨n, g1, g2, g3⟩
          obtain ⟨k, m, q0, q1, rfl, q3⟩ := pow_first hle hnul j n g3
          have hkj : k ≤ j := by
            have := pow_le (ends_finds (b :: s) d a haS) m (k + 1) (j + 1) q0 q3
            omega
          exact ⟨k, hkj, q1, m, g1, g2, (pow_shift b s d a haS m k j hkj hj).1 q3⟩
        · rintro ⟨k, hkj, q1, m, g1, g2, g3⟩
          exact ⟨m + 1, g1, g2, k + 1, q1, (pow_shift b s d a haS m k j hkj hj).2 g3⟩
      rw [hR]
      by_cases hm0 : mx = 0
      · subst hm0
        have hder : derR (b.toNat : Int) (d + 1) (.mk 5 0 0 mn 0 [a]) = nonR := by simp [derR, repD]
        rw [hder]
        refine iff_of_false (mem_op0 s K nonR rfl _ _) ?_
        rintro ⟨k, -, -, m, -, g, -⟩
        omega
      · have hder : derR (b.toNat : Int) (d + 1) (.mk 5 0 0 mn mx [a]) = catD [derR (b.toNat : Int) d a, restD 0 0 mn mx [a]] [] := by simp [derR, repD, restD, hm0]
        rw [hder] at hK ⊢
        have hlf : Leaf0 (restD 0 0 mn mx [a]) := by
          unfold restD
          split
          · exact fun _ => rfl
          · intro h; rcases h with h | h <;> cases h
        by_cases hz : (derR (b.toNat : Int) d a).op = 0
        · rw [cat_sem s K _ [] hK]
          refine iff_of_false (catM_none _ (fun i j => mem_op0 s K _ hz i j) [] [memR s K (restD 0 0 mn mx [a])] 0 j) ?_
          rintro ⟨k, hk, g1, -⟩
          exact mem_op0 s 1 _ hz 0 k ((ih a (by simp) 1 (hleaf a (by simp) (.inl hz)) k (by omega)).2 g1)
        · have hrop : (restD 0 0 mn mx [a]).op ≠ 0 := by
            unfold restD
            split
            · show (1 : Int) ≠ 0; decide
            · show (5 : Int) ≠ 0; decide
          have hn0 : ∀ q ∈ [derR (b.toNat : Int) d a, restD 0 0 mn mx [a]], q.op ≠ 0 := by
            intro q hq
            rcases List.mem_cons.1 hq with rfl | hq
            · exact hz
            · rw [List.mem_singleton.1 hq]; exact hrop
          have hpos := snd_pos hK
          have hparts := (cat_parts hK hn0).2
          have hsn : ∀ q ∈ [derR (b.toNat : Int) d a, restD 0 0 mn mx [a]], Leaf0 q → sndR K q = true := fun q hq hlf => by
            rcases hparts q hq with h | h
            · exact snd_one hpos (hlf (.inr h))
            · exact h
          have hda := hsn _ (by simp) (hleaf a (by simp))
          have hrs := hsn _ (by simp) hlf
          rw [cat_sem s K _ [] hK]
          have hle2 := (ends_finds s K _ hda).le
          constructor
          · rintro ⟨k, g1, k2, g2, g3⟩
            obtain rfl : k2 = j := g3
            have := (ends_finds s K _ hrs).le k k2 (hle2 0 k (by omega) g1).2 g2
            exact ⟨k, this.1, (ih a (by simp) K hda k (by omega)).1 g1, (rest_sem s d K mn mx a haS hrs hm0 h3 h1 k k2).1 g2⟩
          · rintro ⟨k, hk, g1, g2⟩
            exact ⟨k, (ih a (by simp) K hda k (by omega)).2 g1, j, (rest_sem s d K mn mx a haS hrs hm0 h3 h1 k j).2 g2, rfl⟩
    · obtain ⟨a, rfl⟩ := List.length_eq_one_iff.1 hn
      have hder : derR (b.toNat : Int) (d + 1) (.mk 7 0 0 0 0 [a]) = .mk 7 0 0 0 0 [derR (b.toNat : Int) d a] := by simp [derR]
      rw [hder] at hK ⊢
      obtain ⟨K, rfl⟩ : ∃ m, K = m + 1 := ⟨K - 1, by have := snd_pos hK; omega⟩
      have hda := (snd_node hK).2 _ (List.mem_singleton.2 rfl)
      rw [mem7, mem7]
      have := ih a (by simp) K hda j hj
      simp [this, hj]
end Go.Proofs.YtggolmamacoplaaDoor

namespace Go.Proofs.YtggolmamacoplaaDoor
open Go.RowKit
set_option maxRecDepth 100000
set_option maxHeartbeats 2000000

theorem few_snd {K : Nat} {op : Int} (hop : op = 3 ∨ op = 4) {l : List RX} {z : RX} (hl : ∀ q ∈ l, sndR K q = true) (hz : sndR (K + 1) z = true) : sndR (K + 1) (fewR op l z) = true := by
  match l, hl with
  | [], _ => exact hz
  | [a], hl => exact snd_mono K a (hl a (by simp))
  | a :: b :: t, hl =>
    show sndR (K + 1) (.mk op 0 0 0 0 (a :: b :: t)) = true
    unfold sndR
    rw [Bool.and_eq_true, List.all_eq_true]
    refine ⟨?_, hl⟩
    unfold formR
    rcases hop with rfl | rfl <;> simp
theorem few_cnt {K : Nat} {op : Int} {l : List RX} {z : RX} (hl : ∀ q ∈ l, sndR K q = true) (hz : cntN (K + 1) z ≤ 1) : cntN (K + 1) (fewR op l z) ≤ 1 + (l.map (cntN K)).sum := by
  match l, hl with
  | [], _ => exact Nat.le_trans hz (by simp)
  | [a], hl =>
    show cntN (K + 1) a ≤ _
    rw [cnt_mono K a (hl a (by simp))]
    simp
  | a :: b :: t, hl =>
    show cntN (K + 1) (.mk op 0 0 0 0 (a :: b :: t)) ≤ _
    rw [cntN]
    exact Nat.le_refl _
theorem emp_snd (K : Nat) : sndR (K + 1) empR = true := snd_le (by omega) (show sndR 1 empR = true from rfl)
theorem non_snd (K : Nat) : sndR (K + 1) nonR = true := snd_le (by omega) (show sndR 1 nonR = true from rfl)
theorem emp_cnt (K : Nat) : cntN (K + 1) empR ≤ 1 := by simp [empR, cntN]
theorem non_cnt (K : Nat) : cntN (K + 1) nonR ≤ 1 := by simp [nonR, cntN]
theorem cat_snd {K : Nat} : ∀ (l acc : List RX), (∀ q ∈ l, sndR K q = true) → (∀ q ∈ acc, sndR K q = true) → sndR (K + 1) (catD l acc) = true
  | [], acc, _, ha => few_snd (.inl rfl) ha (emp_snd K)
  | a :: t, acc, hl, ha => by
    have h1 := hl a (by simp)
    have ht : ∀ q ∈ t, sndR K q = true := fun q hq => hl q (by simp [hq])
    rw [catD]
    split
    · exact snd_mono K a h1
    split
    · exact cat_snd t acc ht ha
    · exact cat_snd t (acc ++ [a]) ht (fun q hq => by
        rcases List.mem_append.1 hq with h | h
        · exact ha q h
        · rw [List.mem_singleton.1 h]; exact h1)
theorem cat_cnt {K : Nat} : ∀ (l acc : List RX), (∀ q ∈ l, sndR K q = true) → (∀ q ∈ acc, sndR K q = true) → cntN (K + 1) (catD l acc) ≤ 1 + (acc.map (cntN K)).sum + (l.map (cntN K)).sum
  | [], acc, _, ha => by
    have := few_cnt (op := 3) ha (emp_cnt K)
    simpa [catD] using this
  | a :: t, acc, hl, ha => by
    have h1 := hl a (by simp)
    have ht : ∀ q ∈ t, sndR K q = true := fun q hq => hl q (by simp [hq])
    rw [catD]
    split
    · rw [cnt_mono K a h1, List.map_cons, List.sum_cons]
      omega
    split
    · have := cat_cnt t acc ht ha
      rw [List.map_cons, List.sum_cons]
      omega
    · have := cat_cnt t (acc ++ [a]) ht (fun q hq => by
        rcases List.mem_append.1 hq with h | h
        · exact ha q h
        · rw [List.mem_singleton.1 h]; exact h1)
      rw [List.map_append, List.sum_append] at this
      simp only [List.map_cons, List.map_nil, List.sum_cons, List.sum_nil] at this ⊢
      omega
theorem filter_sum (f : RX → Nat) (P : RX → Bool) : ∀ l : List RX, ((l.filter P).map f).sum ≤ (l.map f).sum
  | [] => Nat.le_refl _
  | a :: t => by
    have := filter_sum f P t
    rw [List.filter_cons]
    split <;> simp only [List.map_cons, List.sum_cons] <;> omega
theorem alt_snd {K : Nat} (l : List RX) (hl : ∀ q ∈ l, sndR K q = true) : sndR (K + 1) (altD l) = true :=
  few_snd (.inr rfl) (fun q hq => hl q (List.mem_filter.1 hq).1) (non_snd K)
theorem alt_cnt {K : Nat} (l : List RX) (hl : ∀ q ∈ l, sndR K q = true) : cntN (K + 1) (altD l) ≤ 1 + (l.map (cntN K)).sum := by
  have h1 := few_cnt (op := 4) (z := nonR) (fun q hq => hl q (List.mem_filter.1 hq).1) (non_cnt K) (l := l.filter fun a => decide (a.op ≠ 0))
  have h2 := filter_sum (cntN K) (fun a => decide (a.op ≠ 0)) l
  unfold altD
  omega
/-- The ways through a concatenation are sound, and have few nodes. -/
theorem ways_size (nul : RX → Bool) (der : RX → RX) (d K : Nat) (hdK : d ≤ K) : ∀ (l : List RX), (∀ q ∈ l, sndR d q = true ∧ sndR K (der q) = true ∧ cntN K (der q) ≤ cntN d q * cntN d q + 1) →
    (∀ w ∈ waysD nul der l, sndR (K + 1) w = true) ∧ ((waysD nul der l).map (cntN (K + 1))).sum ≤ (l.map (cntN d)).sum * (l.map (cntN d)).sum + 2 * (l.map (cntN d)).sum
  | [], _ => ⟨fun w hw => (by unfold waysD at hw; cases hw), by simp [waysD]⟩
  | a :: t, h => by
    obtain ⟨a1, a2, a3⟩ := h a (by simp)
    have ht : ∀ q ∈ t, sndR d q = true ∧ sndR K (der q) = true ∧ cntN K (der q) ≤ cntN d q * cntN d q + 1 := fun q hq => h q (by simp [hq])
    obtain ⟨i1, i2⟩ := ways_size nul der d K hdK t ht
    have hs : ∀ q ∈ der a :: t, sndR K q = true := fun q hq => by
      rcases List.mem_cons.1 hq with rfl | hq
      · exact a2
      · exact snd_le hdK (ht q hq).1
    have c1 := cat_cnt (der a :: t) [] hs (fun q hq => by cases hq)
    have c2 : t.map (cntN K) = t.map (cntN d) := List.map_congr_left fun q hq => cnt_le hdK (ht q hq).1
    have hpos : 1 ≤ cntN d a := cnt_pos (snd_pos a1)
    simp only [List.map_cons, List.sum_cons, List.map_nil, List.sum_nil] at c1 ⊢
    rw [c2] at c1
    generalize cntN d a = n at *
    generalize (t.map (cntN d)).sum = S at *
    have e1 : (n + S) * (n + S) = n * n + n * S + (n * S + S * S) := by
      rw [Nat.add_mul, Nat.mul_add, Nat.mul_add, Nat.mul_comm S n]
    have e2 : S ≤ n * S := Nat.le_mul_of_pos_left S hpos
    rw [e1]
    refine ⟨fun w hw => ?_, ?_⟩
    · rw [waysD] at hw
      rcases List.mem_cons.1 hw with rfl | hw
      · exact cat_snd _ _ hs (fun q hq => by cases hq)
      · split at hw
        · exact i1 w hw
        · cases hw
    · rw [waysD, List.map_cons, List.sum_cons]
      split
      · omega
      · simp only [List.map_nil, List.sum_nil]
        omega
theorem map_size (der : RX → RX) (d K : Nat) : ∀ (l : List RX), (∀ q ∈ l, sndR d q = true ∧ sndR K (der q) = true ∧ cntN K (der q) ≤ cntN d q * cntN d q + 1) →
    ((l.map der).map (cntN K)).sum ≤ (l.map (cntN d)).sum * (l.map (cntN d)).sum + (l.map (cntN d)).sum
  | [], _ => by simp
  | a :: t, h => by
    obtain ⟨a1, a2, a3⟩ := h a (by simp)
    have i2 := map_size der d K t (fun q hq => h q (by simp [hq]))
    have hpos : 1 ≤ cntN d a := cnt_pos (snd_pos a1)
    simp only [List.map_cons, List.sum_cons]
    generalize cntN d a = n at *
    generalize (t.map (cntN d)).sum = S at *
    have e1 : (n + S) * (n + S) = n * n + n * S + (n * S + S * S) := by
      rw [Nat.add_mul, Nat.mul_add, Nat.mul_add, Nat.mul_comm S n]
    rw [e1]
    omega
theorem der_size (b : Int) : ∀ (d : Nat) (p : RX), sndR d p = true → sndR (2 * d) (derR b d p) = true ∧ cntN (2 * d) (derR b d p) ≤ cntN d p * cntN d p + 1
  | 0, p, h => by cases h
  | d + 1, .mk op lo hi mn mx l, h => by
    obtain ⟨hf, hl⟩ := snd_node h
    have ih : ∀ q ∈ l, sndR d q = true ∧ sndR (2 * d) (derR b d q) = true ∧ cntN (2 * d) (derR b d q) ≤ cntN d q * cntN d q + 1 := fun q hq => ⟨hl q hq, der_size b d q (hl q hq)⟩
    have ihm : ∀ q ∈ l.map (derR b d), sndR (2 * d) q = true := fun q hq => by obtain ⟨a, ha, rfl⟩ := List.mem_map.1 hq; exact (ih a ha).2.1
    have hcd : cntN (d + 1) (.mk op lo hi mn mx l) = 1 + (l.map (cntN d)).sum := by rw [cntN]
    have e1 : ∀ S : Nat, (1 + S) * (1 + S) = 1 + 2 * S + S * S := fun S => by
      simp only [Nat.add_mul, Nat.mul_add, Nat.one_mul, Nat.mul_one]
      omega
    rw [hcd, e1, show 2 * (d + 1) = 2 * d + 1 + 1 by omega]
    have hone : ∀ {q : RX}, sndR (2 * d + 1) q = true ∧ cntN (2 * d + 1) q ≤ 1 + 2 * (l.map (cntN d)).sum + (l.map (cntN d)).sum * (l.map (cntN d)).sum + 1 → sndR (2 * d + 1 + 1) q = true ∧ cntN (2 * d + 1 + 1) q ≤ 1 + 2 * (l.map (cntN d)).sum + (l.map (cntN d)).sum * (l.map (cntN d)).sum + 1 :=
      fun h => ⟨snd_mono _ _ h.1, by rw [cnt_mono _ _ h.1]; exact h.2⟩
    have hnon : derR b (d + 1) (.mk op lo hi mn mx l) = nonR → sndR (2 * d + 1 + 1) (derR b (d + 1) (.mk op lo hi mn mx l)) = true ∧ cntN (2 * d + 1 + 1) (derR b (d + 1) (.mk op lo hi mn mx l)) ≤ 1 + 2 * (l.map (cntN d)).sum + (l.map (cntN d)).sum * (l.map (cntN d)).sum + 1 :=
      fun h => by rw [h]; exact ⟨non_snd _, by have := non_cnt (2 * d + 1); omega⟩
    rcases form_ways hf with ⟨h0 | h0, hn, rfl, rfl, rfl, rfl⟩ | ⟨rfl, hn, h1, h2, h3, rfl, rfl⟩ | ⟨rfl | rfl | rfl, hn, rfl, rfl, rfl, rfl⟩ | ⟨rfl, hn, rfl, rfl, h1, h2, h3⟩ | ⟨rfl, hn, rfl, rfl, rfl, rfl⟩
    · subst h0
      exact hnon (by simp [derR])
    · subst h0
      exact hnon (by simp [derR])
    · by_cases hb : lo ≤ b ∧ b ≤ hi
      · rw [show derR b (d + 1) (.mk 2 lo hi 0 0 l) = empR by simp [derR, hb]]
        exact ⟨emp_snd _, by have := emp_cnt (2 * d + 1); omega⟩
      · exact hnon (by simp [derR, hb])
    · rw [show derR b (d + 1) (.mk 3 0 0 0 0 l) = altD (waysD (fun a => matR a []) (derR b d) l) by simp [derR]]
      obtain ⟨w1, w2⟩ := ways_size (fun a => matR a []) (derR b d) d (2 * d) (by omega) l ih
      exact ⟨alt_snd _ w1, by have := alt_cnt _ w1; omega⟩
    · rw [show derR b (d + 1) (.mk 4 0 0 0 0 l) = altD (l.map (derR b d)) by simp [derR]]
      have := alt_cnt _ ihm
      have := map_size _ _ _ l ih
      exact hone ⟨alt_snd _ ihm, by omega⟩
    · rw [show derR b (d + 1) (.mk 6 0 0 0 0 l) = andD (l.map (derR b d)) by simp [derR]]
      have hsum := map_size _ _ _ l ih
      refine hone ?_
      unfold andD
      cases hx : (l.map (derR b d)).find? (fun a => decide (a.op = 0)) with
      | some a =>
        have ha := List.mem_of_find?_eq_some hx
        have hs := ihm a ha
        have := sum_le_of_mem (g := cntN (2 * d)) ha
        exact ⟨snd_mono _ _ hs, by rw [cnt_mono _ _ hs]; omega⟩
      | none =>
        refine ⟨?_, ?_⟩
        · show sndR (2 * d + 1) (.mk 6 0 0 0 0 (l.map (derR b d))) = true
          unfold sndR
          rw [Bool.and_eq_true, List.all_eq_true]
          refine ⟨?_, ihm⟩
          unfold formR
          simp only [List.length_map]
          simp
          exact hn
        · show cntN (2 * d + 1) (.mk 6 0 0 0 0 (l.map (derR b d))) ≤ _
          rw [cntN]
          omega
    · obtain ⟨a, rfl⟩ := List.length_eq_one_iff.1 hn
      obtain ⟨a1, a2, a3⟩ := ih a (by simp)
      by_cases hm0 : mx = 0
      · subst hm0
        exact hnon (by simp [derR, repD])
      · rw [show derR b (d + 1) (.mk 5 0 0 mn mx [a]) = catD [derR b d a, restD 0 0 mn mx [a]] [] by simp [derR, repD, restD, hm0]]
        have hpos : 1 ≤ cntN d a := cnt_pos (snd_pos a1)
        have hd := snd_pos a1
        have hr : sndR (2 * d + 1) (restD 0 0 mn mx [a]) = true ∧ cntN (2 * d + 1) (restD 0 0 mn mx [a]) ≤ 1 + cntN d a := by
          unfold restD
          split
          · exact ⟨emp_snd _, by have := emp_cnt (2 * d); omega⟩
          · refine ⟨?_, ?_⟩
            · unfold sndR
              rw [Bool.and_eq_true, List.all_eq_true]
              refine ⟨?_, fun q hq => by rw [List.mem_singleton.1 hq]; exact snd_le (by omega) a1⟩
              unfold formR
              simp
              split <;> split <;> omega
            · rw [cntN]
              simp only [List.map_cons, List.map_nil, List.sum_cons, List.sum_nil]
              rw [cnt_le (show d ≤ 2 * d by omega) a1]
              omega
        have hs : ∀ q ∈ [derR b d a, restD 0 0 mn mx [a]], sndR (2 * d + 1) q = true := fun q hq => by
          rcases List.mem_cons.1 hq with rfl | hq
          · exact snd_mono _ _ a2
          · rw [List.mem_singleton.1 hq]; exact hr.1
        have c1 := cat_cnt _ [] hs (fun q hq => by cases hq)
        refine ⟨cat_snd _ _ hs (fun q hq => by cases hq), ?_⟩
        simp only [List.map_cons, List.map_nil, List.sum_cons, List.sum_nil, Nat.add_zero] at c1 ⊢
        rw [cnt_mono _ _ a2] at c1
        have := hr.2
        generalize cntN d a = n at *
        have e2 : n ≤ n * n := Nat.le_mul_of_pos_left n hpos
        omega
    · obtain ⟨a, rfl⟩ := List.length_eq_one_iff.1 hn
      obtain ⟨a1, a2, a3⟩ := ih a (by simp)
      rw [show derR b (d + 1) (.mk 7 0 0 0 0 [a]) = .mk 7 0 0 0 0 [derR b d a] by simp [derR]]
      refine hone ⟨?_, ?_⟩
      · unfold sndR
        rw [Bool.and_eq_true, List.all_eq_true]
        exact ⟨by simp [formR], fun q hq => by rw [List.mem_singleton.1 hq]; exact a2⟩
      · rw [cntN]
        simp only [List.map_cons, List.map_nil, List.sum_cons, List.sum_nil, Nat.add_zero]
        omega
theorem ways_congr (nul : RX → Bool) {f g : RX → RX} : ∀ {l : List RX}, (∀ q ∈ l, f q = g q) → waysD nul f l = waysD nul g l
  | [], _ => rfl
  | a :: t, h => by rw [waysD, waysD, h a (by simp), ways_congr nul (l := t) (fun q hq => h q (by simp [hq]))]
theorem der_mono (b : Int) : ∀ (d : Nat) (p : RX), sndR d p = true → derR b (d + 1) p = derR b d p
  | 0, p, h => by cases h
  | d + 1, .mk op lo hi mn mx l, h => by
    obtain ⟨hf, hl⟩ := snd_node h
    have ih : ∀ q ∈ l, derR b (d + 1) q = derR b d q := fun q hq => der_mono b d q (hl q hq)
    rw [derR, derR, List.map_congr_left ih, ways_congr _ ih, show repD (derR b (d + 1)) lo hi mn mx l = repD (derR b d) lo hi mn mx l from ?_]
    match l, ih with
    | [], _ => rfl
    | a :: t, ih => simp only [repD]; rw [ih a (by simp)]
theorem der_le (b : Int) {d e : Nat} (h : d ≤ e) {p : RX} (hp : sndR d p = true) : derR b e p = derR b d p := by
  induction h with
  | refl => rfl
  | step hle ih => rw [der_mono b _ p (snd_le hle hp), ih]
/-- The derivative of a pattern of at most 22 nodes is valid. -/
theorem der_val (b : Int) {d : Nat} (hd : d ≤ 24) {p : RX} (hp : sndR d p = true) (hc : cntN d p ≤ 22) : valR (derR b 48 p) = true := by
  rw [der_le b (by omega) hp]
  obtain ⟨h1, h2⟩ := der_size b d p hp
  have h3 : cntN d p * cntN d p ≤ 22 * 22 := Nat.mul_le_mul hc hc
  unfold valR
  rw [snd_le (show 2 * d ≤ 48 by omega) h1, Bool.true_and, decide_eq_true_eq]
  have h4 : cntN 48 (derR b d p) ≤ 485 := by rw [cnt_le (show 2 * d ≤ 48 by omega) h1]; omega
  rw [cnt_nat 48 _ (by omega)]
  omega
end Go.Proofs.YtggolmamacoplaaDoor
