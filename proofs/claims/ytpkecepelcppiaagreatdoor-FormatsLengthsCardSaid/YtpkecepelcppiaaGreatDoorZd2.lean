/- The specification's automaton that counts characters, in plain words; its least one is that of the program's. No program in sight. Conditions: at most 101 characters are told apart. -/
import Derived.Test.YtpkecepelcppiaaGreatDoorZd1
namespace Go.Proofs.YtpkecepelcppiaaGreatDoor
open Go.RowKit
open Classical
set_option maxRecDepth 100000
set_option maxHeartbeats 1000000

end Go.Proofs.YtpkecepelcppiaaGreatDoor

namespace Go.Proofs.YtpkecepelcppiaaGreatDoor
open Go.RowKit
set_option maxRecDepth 100000
set_option maxHeartbeats 1000000

def idxG {α : Type} [DecidableEq α] (S : List α) (k : α) : Option Nat := S.findIdx? (fun x => decide (x = k))
theorem idxG_some {α : Type} [DecidableEq α] {S : List α} {k : α} {i : Nat} (h : idxG S k = some i) : S[i]? = some k := by
 obtain ⟨hi, hp, -⟩ := List.findIdx?_eq_some_iff_getElem.1 h
 rw [List.getElem?_eq_getElem hi, of_decide_eq_true hp]
theorem idxG_none {α : Type} [DecidableEq α] {S : List α} {k : α} : idxG S k = none ↔ k ∉ S := by
 unfold idxG
 rw [List.findIdx?_eq_none_iff]
 constructor
 ·intro h hk
  have := h k hk
  simp at this
 ·intro h x hx
  exact decide_eq_false (fun e => h (e ▸ hx))
theorem nodup_inj {α : Type} {S : List α} (hn : S.Nodup) {i j : Nat} {k : α} (hi : S[i]? = some k) (hj : S[j]? = some k) : i = j := by
 obtain ⟨h1, e1⟩ := List.getElem?_eq_some_iff.1 hi
 obtain ⟨h2, e2⟩ := List.getElem?_eq_some_iff.1 hj
 have hp := List.pairwise_iff_getElem.1 hn
 rcases Nat.lt_trichotomy i j with h | h | h
 ·exact absurd (e1.trans e2.symm) (hp i j h1 h2 h)
 ·exact h
 ·exact absurd (e2.trans e1.symm) (hp j i h2 h1 h)
theorem idxG_nodup {α : Type} [DecidableEq α] {S : List α} (hn : S.Nodup) {i : Nat} {k : α} (h : S[i]? = some k) : idxG S k = some i := by
 cases hf : idxG S k with
 | none => exact absurd (List.mem_of_getElem? h) (idxG_none.1 hf)
 | some j => rw [nodup_inj hn (idxG_some hf) h]
def roundG {α : Type} [DecidableEq α] : List α → List α → List Nat × Nat
 | [], seen => ([], seen.length)
 | k :: t, seen => match idxG seen k with
  | some i => (i :: (roundG t seen).1, (roundG t seen).2)
  | none => (seen.length :: (roundG t (seen ++ [k])).1, (roundG t (seen ++ [k])).2)
theorem roundG_hit {α : Type} [DecidableEq α] {k : α} {t seen : List α} {i : Nat} (h : idxG seen k = some i) : roundG (k :: t) seen = (i :: (roundG t seen).1, (roundG t seen).2) := by
 rw [roundG, h]
theorem roundG_miss {α : Type} [DecidableEq α] {k : α} {t seen : List α} (h : idxG seen k = none) : roundG (k :: t) seen = (seen.length :: (roundG t (seen ++ [k])).1, (roundG t (seen ++ [k])).2) := by
 rw [roundG, h]
theorem nodup_snoc {α : Type} {S : List α} {k : α} (h : S.Nodup) (hk : k ∉ S) : (S ++ [k]).Nodup := by
 rw [List.nodup_append]
 exact ⟨h, by simp, fun a ha b hb => by rw [List.mem_singleton.1 hb]; exact fun e => hk (e ▸ ha)⟩
theorem round_spec {α : Type} [DecidableEq α] : ∀ (l seen : List α), seen.Nodup → ∃ S t : List α, S.Nodup ∧ S = seen ++ t ∧ S.length = (roundG l seen).2 ∧ (roundG l seen).1.length = l.length ∧ S.length ≤ seen.length + l.length ∧
  (∀ (i : Nat) (k : α), l[i]? = some k → ∃ c : Nat, (roundG l seen).1[i]? = some c ∧ S[c]? = some k) ∧ (∀ x ∈ t, x ∈ l)
 | [], seen, hn => ⟨seen, [], hn, by simp, rfl, rfl, by simp, fun i k h => by simp at h, fun x h => by cases h⟩
 | k :: t, seen, hn => by
  cases h : idxG seen k with
  | some i =>
   obtain ⟨S, u, h1, h2, h3, h4, h5, h6, h7⟩ := round_spec t seen hn
   rw [roundG_hit h]
   refine ⟨S, u, h1, h2, h3, by simp [h4], by simp; omega, fun j x hj => ?_, fun x hx => List.mem_cons_of_mem _ (h7 x hx)⟩
   cases j with
   | zero =>
    simp at hj
    subst hj
    refine ⟨i, by simp, ?_⟩
    have h8 := idxG_some h
    have hi : i < seen.length := (List.getElem?_eq_some_iff.1 h8).1
    rw [h2, List.getElem?_append_left hi, h8]
   | succ j => exact h6 j x (by simpa using hj)
  | none =>
   obtain ⟨S, u, h1, h2, h3, h4, h5, h6, h7⟩ := round_spec t (seen ++ [k]) (nodup_snoc hn (idxG_none.1 h))
   rw [roundG_miss h]
   refine ⟨S, k :: u, h1, by rw [h2]; simp, h3, by simp [h4], by simp at h5 ⊢; omega, fun j x hj => ?_, fun x hx => ?_⟩
   ·cases j with
    | zero =>
     simp at hj
     subst hj
     refine ⟨seen.length, by simp, ?_⟩
     rw [h2]
     simp
    | succ j => exact h6 j x (by simpa using hj)
   ·rcases List.mem_cons.1 hx with e | e
    ·rw [e]; exact List.mem_cons_self
    ·exact List.mem_cons_of_mem _ (h7 x e)

theorem round_ahead {α β : Type} [DecidableEq α] [DecidableEq β] : ∀ (l : List (α × β)) (s1 : List α) (s2 : List β), (∀ p ∈ l, ∀ q ∈ l, p.2 = q.2 → p.1 = q.1) → (∀ p ∈ l, p.2 ∈ s2 → p.1 ∈ s1) → ∀ d, s1.length + d ≤ s2.length →
  (roundG (l.map Prod.fst) s1).2 + d ≤ (roundG (l.map Prod.snd) s2).2
 | [], s1, s2, _, _, d, h => h
 | p :: t, s1, s2, hr, hm, d, h => by
  have hr' : ∀ p' ∈ t, ∀ q ∈ t, p'.2 = q.2 → p'.1 = q.1 := fun a ha b hb => hr a (List.mem_cons_of_mem _ ha) b (List.mem_cons_of_mem _ hb)
  rw [List.map_cons, List.map_cons]
  cases h2 : idxG s2 p.2 with
  | some i =>
   have hp := hm p List.mem_cons_self (List.mem_of_getElem? (idxG_some h2))
   cases h1 : idxG s1 p.1 with
   | none => exact absurd hp (idxG_none.1 h1)
   | some j =>
    rw [roundG_hit h1, roundG_hit h2]
    exact round_ahead t s1 s2 hr' (fun q hq => hm q (List.mem_cons_of_mem _ hq)) d h
  | none =>
   rw [roundG_miss h2]
   cases h1 : idxG s1 p.1 with
   | some j =>
    rw [roundG_hit h1]
    refine round_ahead t s1 (s2 ++ [p.2]) hr' (fun q hq hs => ?_) d (by simp; omega)
    rcases List.mem_append.1 hs with e | e
    ·exact hm q (List.mem_cons_of_mem _ hq) e
    ·rw [hr q (List.mem_cons_of_mem _ hq) p List.mem_cons_self (List.mem_singleton.1 e)]
     exact List.mem_of_getElem? (idxG_some h1)
   | none =>
    rw [roundG_miss h1]
    refine round_ahead t (s1 ++ [p.1]) (s2 ++ [p.2]) hr' (fun q hq hs => ?_) d (by simp; omega)
    rcases List.mem_append.1 hs with e | e
    ·exact List.mem_append_left _ (hm q (List.mem_cons_of_mem _ hq) e)
    ·rw [hr q (List.mem_cons_of_mem _ hq) p List.mem_cons_self (List.mem_singleton.1 e)]
     simp
theorem round_sync {α β : Type} [DecidableEq α] [DecidableEq β] : ∀ (l zs : List (α × β)), (∀ p ∈ zs ++ l, ∀ q ∈ zs ++ l, p.2 = q.2 → p.1 = q.1) → (zs.map Prod.fst).Nodup →
  (roundG (l.map Prod.snd) (zs.map Prod.snd)).2 = (roundG (l.map Prod.fst) (zs.map Prod.fst)).2 → (roundG (l.map Prod.snd) (zs.map Prod.snd)).1 = (roundG (l.map Prod.fst) (zs.map Prod.fst)).1
 | [], zs, _, _, _ => rfl
 | p :: t, zs, hr, hn, he => by
  rw [List.map_cons, List.map_cons] at he ⊢
  cases h2 : idxG (zs.map Prod.snd) p.2 with
  | some i =>
   have h3 := idxG_some h2
   rw [List.getElem?_map] at h3
   cases hz : zs[i]? with
   | none => rw [hz] at h3; cases h3
   | some z =>
    rw [hz] at h3
    have h4 : z.2 = p.2 := Option.some.inj h3
    have h5 : z.1 = p.1 := hr z (List.mem_append_left _ (List.mem_of_getElem? hz)) p (by simp) h4
    have h6 : (zs.map Prod.fst)[i]? = some p.1 := by rw [List.getElem?_map, hz, ← h5]; rfl
    have h1 := idxG_nodup hn h6
    rw [roundG_hit h1, roundG_hit h2] at he ⊢
    have h7 := round_sync t zs (fun a ha b hb => hr a (by simp at ha ⊢; rcases ha with e | e; exact .inl e; exact .inr (.inr e)) b (by simp at hb ⊢; rcases hb with e | e; exact .inl e; exact .inr (.inr e))) hn he
    rw [h7]
  | none =>
   cases h1 : idxG (zs.map Prod.fst) p.1 with
   | some j =>
    exfalso
    rw [roundG_miss h2, roundG_hit h1] at he
    have h8 := round_ahead t (zs.map Prod.fst) (zs.map Prod.snd ++ [p.2]) (fun a ha b hb => hr a (by simp [ha]) b (by simp [hb])) (fun q hq hs => by
     rcases List.mem_append.1 hs with e | e
     ·obtain ⟨z, hz, hze⟩ := List.mem_map.1 e
      rw [← hr z (List.mem_append_left _ hz) q (by simp [hq]) hze]
      exact List.mem_map_of_mem hz
     ·rw [hr q (by simp [hq]) p (by simp) (List.mem_singleton.1 e)]
      exact List.mem_of_getElem? (idxG_some h1)) 1 (by simp)
    dsimp only at he
    omega
   | none =>
    rw [roundG_miss h2, roundG_miss h1] at he ⊢
    have h7 := round_sync t (zs ++ [p]) (fun a ha b hb => hr a (by simp at ha ⊢; rcases ha with e | e | e; exact .inl e; exact .inr (.inl e); exact .inr (.inr e)) b (by simp at hb ⊢; rcases hb with e | e | e; exact .inl e; exact .inr (.inl e); exact .inr (.inr e))) (by
     rw [List.map_append]
     exact nodup_snoc hn (idxG_none.1 h1)) (by
     rw [List.map_append, List.map_append]
     exact he)
    rw [List.map_append, List.map_append] at h7
    rw [show zs.map Prod.snd ++ [p.2] = zs.map Prod.snd ++ List.map Prod.snd [p] from rfl, show zs.map Prod.fst ++ [p.1] = zs.map Prod.fst ++ List.map Prod.fst [p] from rfl, h7]
    simp
theorem roundA_G : ∀ l seen : List (List UInt8), roundA l seen = roundG l seen
 | [], _ => rfl
 | k :: t, seen => by
  rw [roundA, roundG]
  unfold idxG
  cases seen.findIdx? (fun x => decide (x = k)) with
  | some i => dsimp only; rw [roundA_G t seen]
  | none => dsimp only; rw [roundA_G t (seen ++ [k])]
theorem find_congr {α : Type} {p q : α → Bool} : ∀ l : List α, (∀ x ∈ l, p x = q x) → l.findIdx? p = l.findIdx? q
 | [], _ => rfl
 | a :: t, h => by
  rw [List.findIdx?_cons, List.findIdx?_cons, h a List.mem_cons_self, find_congr t (fun x hx => h x (List.mem_cons_of_mem _ hx))]
theorem round_map {α β : Type} [DecidableEq α] [DecidableEq β] (f : α → β) : ∀ (l seen : List α), (∀ x ∈ seen ++ l, ∀ y ∈ seen ++ l, f x = f y → x = y) → roundG (l.map f) (seen.map f) = roundG l seen
 | [], seen, _ => by simp [roundG]
 | k :: t, seen, h => by
  have hi : idxG (seen.map f) (f k) = idxG seen k := by
   unfold idxG
   rw [List.findIdx?_map]
   refine find_congr seen (fun x hx => ?_)
   show decide (f x = f k) = decide (x = k)
   by_cases e : x = k
   ·rw [e]; simp
   ·rw [decide_eq_false e, decide_eq_false (fun e2 => e (h x (by simp [hx]) k (by simp) e2))]
  rw [List.map_cons]
  cases hk : idxG seen k with
  | some i =>
   rw [hk] at hi
   rw [roundG_hit hi, roundG_hit hk, round_map f t seen (fun x hx y hy => h x (by simp at hx ⊢; rcases hx with e | e; exact .inl e; exact .inr (.inr e)) y (by simp at hy ⊢; rcases hy with e | e; exact .inl e; exact .inr (.inr e)))]
  | none =>
   rw [hk] at hi
   have h2 := round_map f t (seen ++ [k]) (fun x hx y hy => h x (by simp at hx ⊢; rcases hx with e | e | e; exact .inl e; exact .inr (.inl e); exact .inr (.inr e)) y (by simp at hy ⊢; rcases hy with e | e | e; exact .inl e; exact .inr (.inl e); exact .inr (.inr e)))
   rw [List.map_append] at h2
   rw [roundG_miss hi, roundG_miss hk, List.length_map, ← h2]
   rfl
/-! The words: numbers between commas. -/
def isDg (c : UInt8) : Bool := decide (48 ≤ c.toNat) && decide (c.toNat ≤ 57)
def valT (l : List UInt8) : Nat := l.foldl (fun a c => 10 * a + (c.toNat - 48)) 0
theorem dec_facts : (List.range 1000).all (fun n => decide (valT (decT n) = n) && (decT n).all isDg && !(decT n).isEmpty) = true := by decide +kernel
theorem dec_val {n : Nat} (h : n < 1000) : valT (decT n) = n := by
 have := List.all_eq_true.1 dec_facts n (List.mem_range.2 h)
 simp only [Bool.and_eq_true, decide_eq_true_eq] at this
 exact this.1.1
theorem dec_dg {n : Nat} (h : n < 1000) : ∀ c ∈ decT n, isDg c = true := by
 have := List.all_eq_true.1 dec_facts n (List.mem_range.2 h)
 simp only [Bool.and_eq_true, decide_eq_true_eq] at this
 exact List.all_eq_true.1 this.1.2
theorem dec_inj {a b : Nat} (ha : a < 1000) (hb : b < 1000) (h : decT a = decT b) : a = b := by
 rw [← dec_val ha, ← dec_val hb, h]
def commaL (l : List Nat) : List UInt8 := l.flatMap fun t => 44 :: decN t
theorem comma_tw (l : List Nat) : (commaL l).takeWhile isDg = [] := by
 cases l with
 | nil => rfl
 | cons a t => rfl
theorem dec_split {a b : Nat} {x y : List Nat} (ha : a < 1000) (hb : b < 1000) (h : decN a ++ commaL x = decN b ++ commaL y) : a = b ∧ commaL x = commaL y := by
 unfold decN at h
 have h1 := congrArg (List.takeWhile isDg) h
 rw [List.takeWhile_append_of_pos (dec_dg ha), List.takeWhile_append_of_pos (dec_dg hb), comma_tw, comma_tw, List.append_nil, List.append_nil] at h1
 refine ⟨dec_inj ha hb h1, ?_⟩
 rw [h1] at h
 exact List.append_cancel_left h
theorem comma_inj : ∀ x y : List Nat, (∀ a ∈ x, a < 1000) → (∀ a ∈ y, a < 1000) → commaL x = commaL y → x = y
 | [], [], _, _, _ => rfl
 | [], b :: y, _, _, h => by cases h
 | a :: x, [], _, _, h => by cases h
 | a :: x, b :: y, ha, hb, h => by
  have h1 : decN a ++ commaL x = decN b ++ commaL y := by
   have : (44 : UInt8) :: (decN a ++ commaL x) = 44 :: (decN b ++ commaL y) := h
   exact (List.cons.inj this).2
  obtain ⟨h2, h3⟩ := dec_split (ha a List.mem_cons_self) (hb b List.mem_cons_self) h1
  rw [h2, comma_inj x y (fun c hc => ha c (List.mem_cons_of_mem _ hc)) (fun c hc => hb c (List.mem_cons_of_mem _ hc)) h3]
def rowK (cl : List Nat) (nx : List (List Nat)) (q : Nat) : List Nat := cl.getD q 0 :: (nx.getD q []).map (fun t => cl.getD t 0)
def wordK (x : List Nat) : List UInt8 := decN (x.headD 0) ++ commaL x.tail
theorem key_word (cl : List Nat) (nx : List (List Nat)) (q : Nat) : keyA cl nx q = wordK (rowK cl nx q) := by
 unfold keyA wordK rowK commaL
 rw [List.headD_cons, List.tail_cons, List.flatMap_map]
theorem word_inj {a b : Nat} {x y : List Nat} (h1 : ∀ c ∈ a :: x, c < 1000) (h2 : ∀ c ∈ b :: y, c < 1000) (h : wordK (a :: x) = wordK (b :: y)) : a :: x = b :: y := by
 obtain ⟨h3, h4⟩ := dec_split (h1 a List.mem_cons_self) (h2 b List.mem_cons_self) h
 rw [h3, comma_inj x y (fun c hc => h1 c (List.mem_cons_of_mem _ hc)) (fun c hc => h2 c (List.mem_cons_of_mem _ hc)) h4]
def rowsK (cl : List Nat) (nx : List (List Nat)) : List (List Nat) := (List.range cl.length).map (rowK cl nx)
theorem round_rows {cl : List Nat} (nx : List (List Nat)) (hc : ∀ i, cl.getD i 0 < 1000) : roundA ((List.range cl.length).map (keyA cl nx)) [] = roundG (rowsK cl nx) [] := by
 rw [roundA_G]
 have h1 : (List.range cl.length).map (keyA cl nx) = (rowsK cl nx).map wordK := by
  unfold rowsK
  rw [List.map_map]
  exact List.map_congr_left (fun q _ => key_word cl nx q)
 rw [h1]
 refine round_map wordK (rowsK cl nx) [] (fun x hx y hy he => ?_)
 obtain ⟨q, -, rfl⟩ := List.mem_map.1 hx
 obtain ⟨p, -, rfl⟩ := List.mem_map.1 hy
 refine word_inj (fun c h => ?_) (fun c h => ?_) he
 ·rcases List.mem_cons.1 h with e | e
  ·rw [e]; exact hc q
  ·obtain ⟨t, -, rfl⟩ := List.mem_map.1 e
   exact hc t
 ·rcases List.mem_cons.1 h with e | e
  ·rw [e]; exact hc p
  ·obtain ⟨t, -, rfl⟩ := List.mem_map.1 e
   exact hc t
/-! The loop. -/
def loopG (nx : List (List Nat)) : Nat → List Nat → Nat → Option (List Nat)
 | 0, _, _ => none
 | f + 1, cl, known => if (roundG (rowsK cl nx) []).2 = known then some (roundG (rowsK cl nx) []).1 else loopG nx f (roundG (rowsK cl nx) []).1 (roundG (rowsK cl nx) []).2
def Clo (n : Nat) (nx : List (List Nat)) (E : Nat → Nat → Prop) : Prop := ∀ i j, E i j → i < n ∧ j < n ∧ ∀ c : Nat → Nat, (∀ a b, E a b → c a = c b) → (nx.getD i []).map c = (nx.getD j []).map c
structure RndI (n : Nat) (cl : List Nat) (known : Nat) : Prop where
 len : cl.length = n
 lt : ∀ i, cl.getD i 0 < 1000
 kn : known = 0 ∨ ∃ K : List (List Nat), K.length = n ∧ roundG K [] = (cl, known)
theorem rowsK_len (cl : List Nat) (nx : List (List Nat)) : (rowsK cl nx).length = cl.length := by unfold rowsK; simp
theorem rowsK_at (cl : List Nat) (nx : List (List Nat)) (q : Nat) (h : q < cl.length) : (rowsK cl nx)[q]? = some (rowK cl nx q) := by
 unfold rowsK
 rw [List.getElem?_map, List.getElem?_range h]
 rfl
theorem getD_of {l : List Nat} {i c : Nat} (h : l[i]? = some c) : l.getD i 0 = c := by
 rw [List.getD_eq_getElem?_getD, h]; rfl
structure RndQ (n : Nat) (l : List (List Nat)) (fin : List Nat) (k : Nat) : Prop where
 len : fin.length = n
 le : k ≤ n
 lt : ∀ i, i < n → fin.getD i 0 < k
 iff : ∀ i j x y, l[i]? = some x → l[j]? = some y → (fin.getD i 0 = fin.getD j 0 ↔ x = y)
theorem round_q (l : List (List Nat)) : RndQ l.length l (roundG l []).1 (roundG l []).2 := by
 obtain ⟨S, t, h1, h2, h3, h4, h5, h6, -⟩ := round_spec l [] List.nodup_nil
 refine ⟨h4, by rw [← h3]; simpa using h5, fun i hi => ?_, fun i j x y hx hy => ?_⟩
 ·obtain ⟨c, hc, hs⟩ := h6 i _ (List.getElem?_eq_getElem hi)
  rw [getD_of hc, ← h3]
  exact (List.getElem?_eq_some_iff.1 hs).1
 ·obtain ⟨c, hc, hs⟩ := h6 i x hx
  obtain ⟨d, hd, hs2⟩ := h6 j y hy
  rw [getD_of hc, getD_of hd]
  constructor
  ·intro e
   rw [e, hs2] at hs
   exact (Option.some.inj hs).symm
  ·intro e
   rw [e] at hs
   exact nodup_inj h1 hs hs2
theorem lt_of_lt {n : Nat} {fin : List Nat} {k : Nat} (hl : fin.length = n) (hk : k ≤ n) (hn : n < 1000) (h : ∀ i, i < n → fin.getD i 0 < k) (i : Nat) : fin.getD i 0 < 1000 := by
 by_cases hi : i < n
 ·have := h i hi; omega
 ·rw [List.getD_eq_getElem?_getD, List.getElem?_eq_none (by omega)]
  show 0 < 1000
  omega
theorem rnd_next {n : Nat} {cl : List Nat} {known : Nat} (nx : List (List Nat)) (hn : n < 1000) (h : RndI n cl known) : RndI n (roundG (rowsK cl nx) []).1 (roundG (rowsK cl nx) []).2 := by
 have hq := round_q (rowsK cl nx)
 rw [rowsK_len, h.len] at hq
 exact ⟨hq.len, lt_of_lt hq.len hq.le hn hq.lt, .inr ⟨_, by rw [rowsK_len, h.len], rfl⟩⟩
theorem rows_ref {cl : List Nat} (nx : List (List Nat)) {K : List (List Nat)} {known : Nat} (hr : roundG K [] = (cl, known)) : ∀ p ∈ K.zip (rowsK cl nx), ∀ q ∈ K.zip (rowsK cl nx), p.2 = q.2 → p.1 = q.1 := by
 intro p hp q hq he
 have hq0 := round_q K
 rw [hr] at hq0
 obtain ⟨i, hi⟩ := List.mem_iff_getElem?.1 hp
 obtain ⟨j, hj⟩ := List.mem_iff_getElem?.1 hq
 obtain ⟨h1, h2⟩ := List.getElem?_zip_eq_some.1 hi
 obtain ⟨h3, h4⟩ := List.getElem?_zip_eq_some.1 hj
 have l1 : i < cl.length := by have := (List.getElem?_eq_some_iff.1 h2).1; rwa [rowsK_len] at this
 have l2 : j < cl.length := by have := (List.getElem?_eq_some_iff.1 h4).1; rwa [rowsK_len] at this
 rw [rowsK_at cl nx i l1] at h2
 rw [rowsK_at cl nx j l2] at h4
 have e1 : rowK cl nx i = rowK cl nx j := by rw [Option.some.inj h2, Option.some.inj h4]; exact he
 exact (hq0.iff i j _ _ h1 h3).1 (List.cons.inj e1).1
theorem rnd_ge {n : Nat} {cl : List Nat} {known : Nat} (nx : List (List Nat)) (h : RndI n cl known) : known ≤ (roundG (rowsK cl nx) []).2 := by
 rcases h.kn with e | ⟨K, hK, hr⟩
 ·omega
 ·have hz : K.length = (rowsK cl nx).length := by rw [rowsK_len, h.len, hK]
  have h1 := round_ahead (K.zip (rowsK cl nx)) [] [] (rows_ref nx hr) (fun p _ hp => by cases hp) 0 (Nat.le_refl _)
  rw [List.map_fst_zip (by omega), List.map_snd_zip (by omega), hr] at h1
  exact h1
theorem rnd_same {n : Nat} {cl : List Nat} {known : Nat} (nx : List (List Nat)) (h : RndI n cl known) (hn : 0 < n) (he : (roundG (rowsK cl nx) []).2 = known) : (roundG (rowsK cl nx) []).1 = cl := by
 rcases h.kn with e | ⟨K, hK, hr⟩
 ·exfalso
  have hq := round_q (rowsK cl nx)
  have := hq.lt 0 (by rw [rowsK_len, h.len]; exact hn)
  omega
 ·have hz : K.length = (rowsK cl nx).length := by rw [rowsK_len, h.len, hK]
  have h1 := round_sync (K.zip (rowsK cl nx)) [] (by simpa using rows_ref nx hr) List.nodup_nil (by
   rw [List.map_fst_zip (by omega), List.map_snd_zip (by omega)]
   show (roundG (rowsK cl nx) []).2 = (roundG K []).2
   rw [he, hr])
  rw [List.map_fst_zip (by omega), List.map_snd_zip (by omega)] at h1
  exact h1.trans (by show (roundG K []).1 = cl; rw [hr])
structure LoopQ (n : Nat) (nx : List (List Nat)) (cl fin : List Nat) : Prop where
 len : fin.length = n
 stab : roundG (rowsK fin nx) [] = (fin, (roundG (rowsK fin nx) []).2)
 fine : ∀ i j, i < n → j < n → fin.getD i 0 = fin.getD j 0 → cl.getD i 0 = cl.getD j 0
 coarse : ∀ E, Clo n nx E → (∀ i j, E i j → cl.getD i 0 = cl.getD j 0) → ∀ i j, E i j → fin.getD i 0 = fin.getD j 0
theorem rnd_fine {n : Nat} {cl : List Nat} (nx : List (List Nat)) (hl : cl.length = n) {i j : Nat} (hi : i < n) (hj : j < n) (he : (roundG (rowsK cl nx) []).1.getD i 0 = (roundG (rowsK cl nx) []).1.getD j 0) : rowK cl nx i = rowK cl nx j :=
 ((round_q (rowsK cl nx)).iff i j _ _ (rowsK_at cl nx i (by omega)) (rowsK_at cl nx j (by omega))).1 he
theorem rnd_coarse {n : Nat} {cl : List Nat} {nx : List (List Nat)} (hl : cl.length = n) {E : Nat → Nat → Prop} (hE : Clo n nx E) (hc : ∀ i j, E i j → cl.getD i 0 = cl.getD j 0) (i j : Nat) (h : E i j) : (roundG (rowsK cl nx) []).1.getD i 0 = (roundG (rowsK cl nx) []).1.getD j 0 := by
 obtain ⟨h1, h2, h3⟩ := hE i j h
 refine ((round_q (rowsK cl nx)).iff i j _ _ (rowsK_at cl nx i (by omega)) (rowsK_at cl nx j (by omega))).2 ?_
 unfold rowK
 rw [hc i j h, h3 (fun t => cl.getD t 0) hc]
theorem loopG_q (n : Nat) (nx : List (List Nat)) (h0 : 0 < n) (hn : n < 1000) : ∀ (f : Nat) (cl : List Nat) (known : Nat), RndI n cl known → n + 2 ≤ f + known → ∃ fin, loopG nx f cl known = some fin ∧ LoopQ n nx cl fin
 | 0, cl, known, h, hf => by
  exfalso
  rcases h.kn with e | ⟨K, hK, hr⟩
  ·omega
  ·have := (round_q K).le
   rw [hr, hK] at this
   dsimp only at this
   omega
 | f + 1, cl, known, h, hf => by
  have hnx := rnd_next nx hn h
  by_cases he : (roundG (rowsK cl nx) []).2 = known
  ·have hs := rnd_same nx h h0 he
   refine ⟨cl, by rw [loopG, if_pos he, hs], h.len, ?_, fun i j _ _ e => e, fun E _ hc => hc⟩
   exact Prod.ext hs rfl
  ·have hge := rnd_ge nx h
   obtain ⟨fin, h1, h2⟩ := loopG_q n nx h0 hn f _ _ hnx (by omega)
   refine ⟨fin, by rw [loopG, if_neg he, h1], h2.len, h2.stab, fun i j hi hj e => ?_, fun E hE hc => h2.coarse E hE (rnd_coarse h.len hE hc)⟩
   have := rnd_fine nx h.len hi hj (h2.fine i j hi hj e)
   exact (List.cons.inj this).1
theorem loopA_G (n : Nat) (nx : List (List Nat)) (hn : n < 1000) : ∀ (f : Nat) (cl : List Nat) (known : Nat), RndI n cl known → loopA nx f cl known = loopG nx f cl known
 | 0, _, _, _ => rfl
 | f + 1, cl, known, h => by
  have e1 : loopA nx (f + 1) cl known = if (roundA ((List.range cl.length).map (keyA cl nx)) []).2 = known then some (roundA ((List.range cl.length).map (keyA cl nx)) []).1 else loopA nx f (roundA ((List.range cl.length).map (keyA cl nx)) []).1 (roundA ((List.range cl.length).map (keyA cl nx)) []).2 := rfl
  rw [e1, loopG, round_rows nx h.lt, loopA_G n nx hn f _ _ (rnd_next nx hn h)]
end Go.Proofs.YtpkecepelcppiaaGreatDoor

namespace Go.Proofs.YtpkecepelcppiaaGreatDoor
open Go.RowKit
set_option maxRecDepth 100000
set_option maxHeartbeats 1000000

theorem arc_nil (lo hi nx : Nat) : addArcA [] lo hi nx = [⟨lo, hi, nx⟩] := rfl
theorem arc_snoc (l : List ArcA) (a : ArcA) (lo hi nx : Nat) : addArcA (l ++ [a]) lo hi nx = if a.nx = nx then l ++ [⟨a.lo, hi, a.nx⟩] else l ++ [a] ++ [⟨lo, hi, nx⟩] := by
 unfold addArcA
 rw [List.getLast?_concat]
 dsimp only
 rw [List.dropLast_concat]
theorem arc_twice (l : List ArcA) (lo mid lo2 hi nx : Nat) : addArcA (addArcA l lo mid nx) lo2 hi nx = addArcA l lo hi nx := by
 rcases List.eq_nil_or_concat l with rfl | ⟨l', a, rfl⟩
 ·rw [arc_nil, arc_nil, show [(⟨lo, mid, nx⟩ : ArcA)] = [] ++ [⟨lo, mid, nx⟩] from rfl, arc_snoc, if_pos rfl]
  rfl
 ·rw [List.concat_eq_append, arc_snoc, arc_snoc]
  by_cases h : a.nx = nx
  ·rw [if_pos h, if_pos h, arc_snoc, if_pos h]
  ·rw [if_neg h, if_neg h, arc_snoc, if_pos rfl]
def idxC (c : Nat → Nat) (order : List Nat) (t : Nat) : Option Nat := order.findIdx? (fun o => decide (c o = c t))
def rowL (c : Nat → Nat) : List (Nat × Nat × Nat) → List ArcA → List Nat → List ArcA × List Nat
 | [], arcs, order => (arcs, order)
 | x :: t, arcs, order => match idxC c order x.2.2 with
  | some n => rowL c t (addArcA arcs x.1 x.2.1 n) order
  | none => rowL c t (addArcA arcs x.1 x.2.1 order.length) (order ++ [x.2.2])
theorem rowL_hit {c : Nat → Nat} {lo hi x : Nat} {t : List (Nat × Nat × Nat)} {arcs : List ArcA} {order : List Nat} {n : Nat} (h : idxC c order x = some n) : rowL c ((lo, hi, x) :: t) arcs order = rowL c t (addArcA arcs lo hi n) order := by
 rw [rowL, h]
theorem rowL_miss {c : Nat → Nat} {lo hi x : Nat} {t : List (Nat × Nat × Nat)} {arcs : List ArcA} {order : List Nat} (h : idxC c order x = none) : rowL c ((lo, hi, x) :: t) arcs order = rowL c t (addArcA arcs lo hi order.length) (order ++ [x]) := by
 rw [rowL, h]
theorem idxC_new {c : Nat → Nat} {order : List Nat} {x : Nat} (h : idxC c order x = none) : idxC c (order ++ [x]) x = some order.length := by
 unfold idxC at h ⊢
 rw [List.findIdx?_append, h]
 simp
theorem row_two (c : Nat → Nat) (lo mid lo2 hi x : Nat) (t : List (Nat × Nat × Nat)) (arcs : List ArcA) (order : List Nat) : rowL c ((lo, mid, x) :: (lo2, hi, x) :: t) arcs order = rowL c ((lo, hi, x) :: t) arcs order := by
 cases h : idxC c order x with
 | some n => rw [rowL_hit h, rowL_hit h, rowL_hit h, arc_twice]
 | none => rw [rowL_miss h, rowL_miss h, rowL_hit (idxC_new h), arc_twice]
theorem rowL_app (c : Nat → Nat) : ∀ (l1 l2 : List (Nat × Nat × Nat)) (arcs : List ArcA) (order : List Nat), rowL c (l1 ++ l2) arcs order = rowL c l2 (rowL c l1 arcs order).1 (rowL c l1 arcs order).2
 | [], _, _, _ => rfl
 | (lo, hi, x) :: t, l2, arcs, order => by
  rw [List.cons_append]
  cases h : idxC c order x with
  | some n => rw [rowL_hit h, rowL_hit h, rowL_app c t l2]
  | none => rw [rowL_miss h, rowL_miss h, rowL_app c t l2]
def sing (g : Nat → Nat) (lo n : Nat) : List (Nat × Nat × Nat) := (List.range' lo n).map fun b => (b, b, g b)
theorem sing_succ (g : Nat → Nat) (lo n : Nat) : sing g lo (n + 1) = sing g lo n ++ [(lo + n, lo + n, g (lo + n))] := by
 unfold sing
 rw [List.range'_concat, List.map_append]
 simp
theorem sing_add (g : Nat → Nat) (lo n k : Nat) : sing g lo (n + k) = sing g lo n ++ sing g (lo + n) k := by
 unfold sing
 rw [← List.map_append]
 congr 1
 rw [← List.range'_append (s := lo) (m := n) (n := k) (step := 1), Nat.one_mul]
theorem row_split (c g : Nat → Nat) (lo t : Nat) : ∀ (n : Nat) (rest : List (Nat × Nat × Nat)) (arcs : List ArcA) (order : List Nat), (∀ b, lo ≤ b → b ≤ lo + n → g b = t) → rowL c ((lo, lo + n, t) :: rest) arcs order = rowL c (sing g lo (n + 1) ++ rest) arcs order
 | 0, rest, arcs, order, h => by
  rw [show sing g lo 1 = [(lo, lo, g lo)] from rfl, h lo (Nat.le_refl _) (Nat.le_refl _)]
  rfl
 | n + 1, rest, arcs, order, h => by
  rw [← row_two c lo (lo + n) (lo + (n + 1)) (lo + (n + 1)) t, row_split c g lo t n _ arcs order (fun b h1 h2 => h b h1 (by omega)), sing_succ g lo (n + 1), h (lo + (n + 1)) (by omega) (Nat.le_refl _), List.append_assoc]
  rfl
def tripR (g : Nat → Nat) : List Nat → List (Nat × Nat × Nat)
 | [] => []
 | [b] => [(b, 255, g b)]
 | b :: b2 :: t => (b, b2 - 1, g b) :: tripR g (b2 :: t)
theorem const_run {g : Nat → Nat} {b : Nat} : ∀ n, (∀ x, b < x → x ≤ b + n → g x = g (x - 1)) → ∀ x, b ≤ x → x ≤ b + n → g x = g b
 | 0, _, x, h1, h2 => by rw [show x = b by omega]
 | n + 1, h, x, h1, h2 => by
  by_cases e : x = b + (n + 1)
  ·rw [e, h _ (by omega) (Nat.le_refl _)]
   exact const_run n (fun y hy1 hy2 => h y hy1 (by omega)) _ (by omega) (by omega)
  ·exact const_run n (fun y hy1 hy2 => h y hy1 (by omega)) x h1 (by omega)
theorem trip_sing (c g : Nat → Nat) : ∀ (bs : List Nat) (b : Nat) (arcs : List ArcA) (order : List Nat), (b :: bs).Pairwise (· < ·) → (∀ x ∈ b :: bs, x < 256) → (∀ x, b < x → x < 256 → x ∉ bs → g x = g (x - 1)) →
  rowL c (tripR g (b :: bs)) arcs order = rowL c (sing g b (256 - b)) arcs order
 | [], b, arcs, order, _, hb, hc => by
  have h256 := hb b List.mem_cons_self
  have h1 := row_split c g b (g b) (255 - b) [] arcs order (fun x h1 h2 => const_run (255 - b) (fun y hy1 hy2 => hc y hy1 (by omega) (by simp)) x h1 h2)
  rw [List.append_nil, show b + (255 - b) = 255 by omega, show 255 - b + 1 = 256 - b by omega] at h1
  exact h1
 | b2 :: t, b, arcs, order, hp, hb, hc => by
  have hlt : b < b2 := (List.pairwise_cons.1 hp).1 b2 List.mem_cons_self
  have h256 := hb b2 (by simp)
  have hp2 := (List.pairwise_cons.1 hp).2
  have h1 := row_split c g b (g b) (b2 - 1 - b) (tripR g (b2 :: t)) arcs order (fun x h1 h2 => const_run (b2 - 1 - b) (fun y hy1 hy2 => hc y hy1 (by omega) (fun hm => by
   rcases List.mem_cons.1 hm with e | e
   ·omega
   ·have := (List.pairwise_cons.1 hp2).1 y e
    omega)) x h1 h2)
  rw [show b + (b2 - 1 - b) = b2 - 1 by omega, show b2 - 1 - b + 1 = b2 - b by omega] at h1
  rw [tripR, h1, rowL_app, trip_sing c g t b2 _ _ hp2 (fun x hx => hb x (List.mem_cons_of_mem _ hx)) (fun x h1 h2 h3 => hc x (by omega) h2 (fun hm => by
   rcases List.mem_cons.1 hm with e | e
   ·omega
   ·exact h3 e)), ← rowL_app]
  congr 1
  have := sing_add g b (b2 - b) (256 - b2)
  rw [show b + (b2 - b) = b2 by omega, show b2 - b + (256 - b2) = 256 - b by omega] at this
  exact this.symm
theorem row_trip (cl : List Nat) (g : Nat → Nat) (bytes : List Nat) : ∀ (d k : Nat) (arcs : List ArcA) (order : List Nat), k + d = bytes.length →
  rowA bytes cl ((bytes.drop k).map g) k arcs order = rowL (fun i => cl.getD i 0) (tripR g (bytes.drop k)) arcs order
 | 0, k, arcs, order, h => by
  rw [List.drop_of_length_le (by omega)]
  rfl
 | d + 1, k, arcs, order, h => by
  have hk : k < bytes.length := by omega
  have ih := row_trip cl g bytes d (k + 1)
  rw [List.drop_eq_getElem_cons hk]
  have hb : bytes.getD k 0 = bytes[k] := by rw [List.getD_eq_getElem?_getD, List.getElem?_eq_getElem hk]; rfl
  have ht : ∃ T, tripR g (bytes[k] :: bytes.drop (k + 1)) = (bytes[k], hiA bytes k, g bytes[k]) :: T ∧ tripR g (bytes.drop (k + 1)) = T := by
   unfold hiA
   by_cases h2 : k + 1 < bytes.length
   ·rw [List.drop_eq_getElem_cons h2, List.getElem?_eq_getElem h2]
    exact ⟨_, rfl, rfl⟩
   ·rw [List.drop_of_length_le (by omega), List.getElem?_eq_none (by omega)]
    exact ⟨[], rfl, rfl⟩
  obtain ⟨T, hT, hT2⟩ := ht
  rw [hT, List.map_cons, rowA, hb]
  show (match order.findIdx? (fun o => decide (cl.getD o 0 = cl.getD (g bytes[k]) 0)) with | some n => _ | none => _) = _
  cases hi : idxC (fun i => cl.getD i 0) order (g bytes[k]) with
  | some n =>
   have hi' : order.findIdx? (fun o => decide (cl.getD o 0 = cl.getD (g bytes[k]) 0)) = some n := hi
   rw [hi', rowL_hit hi, ← hT2]
   exact ih _ _ (by omega)
  | none =>
   have hi' : order.findIdx? (fun o => decide (cl.getD o 0 = cl.getD (g bytes[k]) 0)) = none := hi
   rw [hi', rowL_miss hi, ← hT2]
   exact ih _ _ (by omega)
/-! The bytes at which arcs begin. -/
theorem starts_pair (m : List StA) : (startsA m).Pairwise (· < ·) := List.Pairwise.filter _ List.pairwise_lt_range
theorem starts_lt (m : List StA) : ∀ x ∈ startsA m, x < 256 := fun _ hx => List.mem_range.1 (List.mem_filter.1 hx).1
theorem step_const {n : Nat} : ∀ (l : List ArcA) (b x : Nat), okArcs n b l = true → b < x → x < 256 → (∀ a ∈ l, a.lo ≠ x) → stepL l x = stepL l (x - 1)
 | [], b, x, h, h1, h2, _ => rfl
 | a :: t, b, x, h, h1, h2, h3 => by
  unfold okArcs at h
  simp only [Bool.and_eq_true, decide_eq_true_eq] at h
  unfold stepL
  by_cases e : x ≤ a.hi
  ·rw [if_pos e, if_pos (by omega)]
  ·rw [if_neg e]
   by_cases e2 : x - 1 ≤ a.hi
   ·exfalso
    have hx : a.hi + 1 = x := by omega
    cases t with
    | nil => have h4 := h.2; simp [okArcs] at h4; omega
    | cons a2 t =>
     have h4 := h.2
     unfold okArcs at h4
     simp only [Bool.and_eq_true, decide_eq_true_eq] at h4
     exact h3 a2 (by simp) (by omega)
   ·rw [if_neg e2]
    exact step_const t (a.hi + 1) x h.2 (by omega) h2 (fun a2 ha2 => h3 a2 (List.mem_cons_of_mem _ ha2))
theorem val_arcs {m : List StA} (hv : valA m = true) {q : Nat} (hq : q < m.length) : okArcs m.length 0 (arcsOf m q) = true := by
 unfold valA at hv
 simp only [Bool.and_eq_true, decide_eq_true_eq] at hv
 have := List.all_eq_true.1 hv.2 m[q] (List.getElem_mem hq)
 unfold arcsOf
 rw [List.getElem?_eq_getElem hq]
 exact this
theorem starts_const {m : List StA} (hv : valA m = true) {q : Nat} (hq : q < m.length) {x : Nat} (h0 : 0 < x) (h1 : x < 256) (h2 : x ∉ startsA m) : stepL (arcsOf m q) x = stepL (arcsOf m q) (x - 1) := by
 refine step_const _ 0 x (val_arcs hv hq) h0 h1 (fun a ha e => h2 ?_)
 unfold startsA
 rw [List.mem_filter]
 refine ⟨List.mem_range.2 h1, ?_⟩
 rw [List.any_eq_true]
 refine ⟨m[q], List.getElem_mem hq, ?_⟩
 rw [List.any_eq_true]
 refine ⟨a, ?_, decide_eq_true e⟩
 unfold arcsOf at ha
 rw [List.getElem?_eq_getElem hq] at ha
 exact ha
theorem starts_cons {m : List StA} (hv : valA m = true) : ∃ t, startsA m = 0 :: t := by
 have hl : 0 < m.length := by
  unfold valA at hv
  simp only [Bool.and_eq_true, decide_eq_true_eq] at hv
  exact hv.1.1
 have h0 : 0 ∈ startsA m := by
  unfold startsA
  rw [List.mem_filter]
  refine ⟨List.mem_range.2 (by decide), ?_⟩
  rw [List.any_eq_true]
  refine ⟨m[0], List.getElem_mem hl, ?_⟩
  have ha := val_arcs hv hl
  unfold arcsOf at ha
  rw [List.getElem?_eq_getElem hl] at ha
  dsimp only at ha
  cases hm : m[0].arcs with
  | nil => rw [hm] at ha; simp [okArcs] at ha
  | cons a t =>
   rw [hm] at ha
   unfold okArcs at ha
   simp only [Bool.and_eq_true, decide_eq_true_eq] at ha
   simp [ha.1.1.1.1]
 have hp := starts_pair m
 cases hs : startsA m with
 | nil => rw [hs] at h0; cases h0
 | cons b t =>
  rw [hs] at h0 hp
  rcases List.mem_cons.1 h0 with e | e
  ·exact ⟨t, by rw [← e]⟩
  ·have := (List.pairwise_cons.1 hp).1 0 e
   omega
def gA (m : List StA) (q : Nat) : Nat → Nat := stepL (arcsOf m q)
theorem row_full {m : List StA} (hv : valA m = true) {q : Nat} (hq : q < m.length) (cl : List Nat) (order : List Nat) :
  rowA (startsA m) cl ((startsA m).map (gA m q)) 0 [] order = rowL (fun i => cl.getD i 0) (sing (gA m q) 0 256) [] order := by
 have h1 := row_trip cl (gA m q) (startsA m) (startsA m).length 0 [] order (by omega)
 rw [List.drop_zero] at h1
 rw [h1]
 obtain ⟨t, ht⟩ := starts_cons hv
 have hp := starts_pair m
 have hl := starts_lt m
 have hc : ∀ x, 0 < x → x < 256 → x ∉ t → gA m q x = gA m q (x - 1) := fun _ h0 h1 h2 => starts_const hv hq h0 h1 (fun hm => by
  rw [ht] at hm
  rcases List.mem_cons.1 hm with e | e
  ·omega
  ·exact h2 e)
 rw [ht] at hp hl ⊢
 exact trip_sing _ _ t 0 [] order hp hl hc
def numbL (c : Nat → Nat) (g : Nat → Nat → Nat) (acc : Nat → Bool) : Nat → Nat → List Nat → List StA → Option (List StA)
 | 0, _, _, _ => none
 | f + 1, i, order, out => match order[i]? with
  | none => some out
  | some q => numbL c g acc f (i + 1) (rowL c (sing (g q) 0 256) [] order).2 (out ++ [⟨acc q, (rowL c (sing (g q) 0 256) [] order).1⟩])
theorem rowL_mem {c : Nat → Nat} {P : Nat → Prop} : ∀ (l : List (Nat × Nat × Nat)) (arcs : List ArcA) (order : List Nat), (∀ x ∈ l, P x.2.2) → (∀ o ∈ order, P o) → ∀ o ∈ (rowL c l arcs order).2, P o
 | [], _, _, _, h => h
 | (lo, hi, x) :: t, arcs, order, hl, h => by
  have hl' : ∀ y ∈ t, P y.2.2 := fun y hy => hl y (List.mem_cons_of_mem _ hy)
  cases hi2 : idxC c order x with
  | some n => rw [rowL_hit hi2]; exact rowL_mem t _ _ hl' h
  | none =>
   rw [rowL_miss hi2]
   refine rowL_mem t _ _ hl' (fun o ho => ?_)
   rcases List.mem_append.1 ho with e | e
   ·exact h o e
   ·rw [List.mem_singleton.1 e]; exact hl _ List.mem_cons_self
theorem gA_lt {m : List StA} (hv : valA m = true) {q : Nat} (hq : q < m.length) (b : Nat) : gA m q b < m.length := by
 have h : ∀ (n : Nat) (l : List ArcA) (b c : Nat), okArcs n b l = true → 0 < n → stepL l c < n := by
  intro n l
  induction l with
  | nil => intro b c _ h0; exact h0
  | cons a t ih =>
   intro b c h h0
   unfold okArcs at h
   simp only [Bool.and_eq_true, decide_eq_true_eq] at h
   unfold stepL
   split
   ·exact h.1.2
   ·exact ih _ _ h.2 h0
 exact h _ _ _ _ (val_arcs hv hq) (by omega)
theorem num_L {m : List StA} (hv : valA m = true) (cl : List Nat) : ∀ (f i : Nat) (order : List Nat) (out : List StA), (∀ o ∈ order, o < m.length) →
  numA m (startsA m) cl (m.map fun s => (startsA m).map (stepL s.arcs)) f i order out = numbL (fun i => cl.getD i 0) (gA m) (accOf m) f i order out
 | 0, _, _, _, _ => rfl
 | f + 1, i, order, out, h => by
  rw [numA, numbL]
  cases ho : order[i]? with
  | none => rfl
  | some q =>
   have hq := h q (List.mem_of_getElem? ho)
   have hr : (m.map fun s => (startsA m).map (stepL s.arcs)).getD q [] = (startsA m).map (gA m q) := by
    rw [List.getD_eq_getElem?_getD, List.getElem?_map, List.getElem?_eq_getElem hq]
    unfold gA arcsOf
    rw [List.getElem?_eq_getElem hq]
    rfl
   dsimp only
   rw [hr, row_full hv hq cl order]
   exact num_L hv cl f (i + 1) _ _ (rowL_mem _ _ _ (fun x hx => by
    obtain ⟨b, -, rfl⟩ := List.mem_map.1 hx
    exact gA_lt hv hq b) h)
/-! The same numbering for automata that do the same. -/
theorem idx_sync {c1 c2 : Nat → Nat} {t1 t2 : Nat} : ∀ zs : List (Nat × Nat), (∀ z ∈ zs, (c1 z.1 = c1 t1 ↔ c2 z.2 = c2 t2)) → idxC c1 (zs.map Prod.fst) t1 = idxC c2 (zs.map Prod.snd) t2 := by
 intro zs h
 unfold idxC
 rw [List.findIdx?_map, List.findIdx?_map]
 refine find_congr zs (fun z hz => ?_)
 show decide (c1 z.1 = c1 t1) = decide (c2 z.2 = c2 t2)
 by_cases e : c1 z.1 = c1 t1
 ·rw [decide_eq_true e, decide_eq_true ((h z hz).1 e)]
 ·rw [decide_eq_false e, decide_eq_false (fun e2 => e ((h z hz).2 e2))]
theorem row_sync {c1 c2 g1 g2 : Nat → Nat} {E : Nat → Nat → Prop} (hE : ∀ a b x y, E a x → E b y → (c1 a = c1 b ↔ c2 x = c2 y)) : ∀ (n lo : Nat) (arcs : List ArcA) (zs : List (Nat × Nat)), (∀ b, lo ≤ b → b < lo + n → E (g1 b) (g2 b)) → (∀ z ∈ zs, E z.1 z.2) →
  ∃ ys : List (Nat × Nat), (∀ z ∈ ys, E z.1 z.2) ∧ (rowL c1 (sing g1 lo n) arcs (zs.map Prod.fst)).2 = ys.map Prod.fst ∧ (rowL c2 (sing g2 lo n) arcs (zs.map Prod.snd)).2 = ys.map Prod.snd ∧ (rowL c1 (sing g1 lo n) arcs (zs.map Prod.fst)).1 = (rowL c2 (sing g2 lo n) arcs (zs.map Prod.snd)).1
 | 0, lo, arcs, zs, _, h => ⟨zs, h, rfl, rfl, rfl⟩
 | n + 1, lo, arcs, zs, hg, h => by
  have e1 : ∀ g : Nat → Nat, sing g lo (n + 1) = (lo, lo, g lo) :: sing g (lo + 1) n := fun g => by
   unfold sing
   rw [List.range'_succ]
   rfl
  have h0 := hg lo (Nat.le_refl _) (by omega)
  have hi := idx_sync (c1 := c1) (c2 := c2) (t1 := g1 lo) (t2 := g2 lo) zs (fun z hz => hE _ _ _ _ (h z hz) h0)
  rw [e1, e1]
  cases h1 : idxC c1 (zs.map Prod.fst) (g1 lo) with
  | some k =>
   rw [h1] at hi
   rw [rowL_hit h1, rowL_hit hi.symm]
   exact row_sync hE n (lo + 1) _ zs (fun b hb1 hb2 => hg b (by omega) (by omega)) h
  | none =>
   rw [h1] at hi
   rw [rowL_miss h1, rowL_miss hi.symm]
   have h2 := row_sync hE n (lo + 1) (addArcA arcs lo lo zs.length) (zs ++ [(g1 lo, g2 lo)]) (fun b hb1 hb2 => hg b (by omega) (by omega)) (fun z hz => by
    rcases List.mem_append.1 hz with e | e
    ·exact h z e
    ·rw [List.mem_singleton.1 e]; exact h0)
   rw [List.map_append, List.map_append] at h2
   rw [List.length_map, List.length_map]
   exact h2
theorem num_sync {c1 c2 : Nat → Nat} {g1 g2 : Nat → Nat → Nat} {a1 a2 : Nat → Bool} {E : Nat → Nat → Prop} (hE : ∀ a b x y, E a x → E b y → (c1 a = c1 b ↔ c2 x = c2 y)) (hg : ∀ q p, E q p → ∀ b, b < 256 → E (g1 q b) (g2 p b)) (ha : ∀ q p, E q p → a1 q = a2 p) :
  ∀ (f i : Nat) (zs : List (Nat × Nat)) (out : List StA), (∀ z ∈ zs, E z.1 z.2) → numbL c1 g1 a1 f i (zs.map Prod.fst) out = numbL c2 g2 a2 f i (zs.map Prod.snd) out
 | 0, _, _, _, _ => rfl
 | f + 1, i, zs, out, h => by
  rw [numbL, numbL, List.getElem?_map, List.getElem?_map]
  cases hz : zs[i]? with
  | none => rfl
  | some z =>
   have hzE := h z (List.mem_of_getElem? hz)
   dsimp only [Option.map_some]
   obtain ⟨ys, h1, h2, h3, h4⟩ := row_sync hE 256 0 [] zs (g1 := g1 z.1) (g2 := g2 z.2) (fun b _ hb => hg _ _ hzE b (by omega)) h
   rw [h2, h3, h4, ha _ _ hzE]
   exact num_sync hE hg ha f (i + 1) ys _ h1
end Go.Proofs.YtpkecepelcppiaaGreatDoor

namespace Go.Proofs.YtpkecepelcppiaaGreatDoor
open Go.RowKit
set_option maxRecDepth 100000
set_option maxHeartbeats 1000000

def okTo (n : Nat) : Nat → List ArcA → Nat → Prop
 | b, [], e => b = e
 | b, a :: t, e => a.lo = b ∧ a.lo ≤ a.hi ∧ a.nx < n ∧ okTo n (a.hi + 1) t e
theorem okTo_app {n : Nat} : ∀ {l1 l2 : List ArcA} {s e : Nat}, okTo n s (l1 ++ l2) e ↔ ∃ m, okTo n s l1 m ∧ okTo n m l2 e
 | [], l2, s, e => ⟨fun h => ⟨s, rfl, h⟩, fun ⟨m, h1, h2⟩ => by rw [show s = m from h1]; exact h2⟩
 | a :: t, l2, s, e => by
  constructor
  ·rintro ⟨h1, h2, h3, h4⟩
   obtain ⟨m, h5, h6⟩ := okTo_app.1 h4
   exact ⟨m, ⟨h1, h2, h3, h5⟩, h6⟩
  ·rintro ⟨m, ⟨h1, h2, h3, h5⟩, h6⟩
   exact ⟨h1, h2, h3, okTo_app.2 ⟨m, h5, h6⟩⟩
theorem okTo_le {n : Nat} : ∀ {l : List ArcA} {s e : Nat}, okTo n s l e → s ≤ e
 | [], s, e, h => Nat.le_of_eq h
 | a :: t, s, e, ⟨h1, h2, _, h4⟩ => by have := okTo_le h4; omega
theorem okTo_ok {n : Nat} : ∀ {l : List ArcA} {s : Nat}, okTo n s l 256 → okArcs n s l = true
 | [], s, h => decide_eq_true h
 | a :: t, s, ⟨h1, h2, h3, h4⟩ => by
  have := okTo_le h4
  unfold okArcs
  rw [okTo_ok h4]
  simp only [Bool.and_true, Bool.and_eq_true, decide_eq_true_eq]
  omega
theorem okTo_mono {n n' : Nat} (hn : n ≤ n') : ∀ {l : List ArcA} {s e : Nat}, okTo n s l e → okTo n' s l e
 | [], _, _, h => h
 | a :: t, s, e, ⟨h1, h2, h3, h4⟩ => ⟨h1, h2, by omega, okTo_mono hn h4⟩
theorem next_left {n : Nat} : ∀ {l1 l2 : List ArcA} {s e b : Nat}, okTo n s l1 e → s ≤ b → b < e → nextL (l1 ++ l2) b = nextL l1 b
 | [], l2, s, e, b, h, h1, h2 => by have : s = e := h; omega
 | a :: t, l2, s, e, b, ⟨h1, h2, _, h4⟩, h5, h6 => by
  rw [List.cons_append, nextL, nextL]
  by_cases h : a.lo ≤ b ∧ b ≤ a.hi
  ·rw [if_pos h, if_pos h]
  ·rw [if_neg h, if_neg h]
   exact next_left h4 (by omega) h6
theorem next_right {n : Nat} : ∀ {l1 l2 : List ArcA} {s e b : Nat}, okTo n s l1 e → e ≤ b → nextL (l1 ++ l2) b = nextL l2 b
 | [], l2, s, e, b, h, h1 => rfl
 | a :: t, l2, s, e, b, ⟨h1, h2, _, h4⟩, h5 => by
  have := okTo_le h4
  rw [List.cons_append, nextL, if_neg (by omega)]
  exact next_right h4 h5
theorem arc_ok {N : Nat} {arcs : List ArcA} {b n : Nat} (h : okTo N 0 arcs b) (hn : n < N) : okTo N 0 (addArcA arcs b b n) (b + 1) ∧ (∀ x, x < b → nextL (addArcA arcs b b n) x = nextL arcs x) ∧ nextL (addArcA arcs b b n) b = n := by
 rcases List.eq_nil_or_concat arcs with rfl | ⟨l, a, rfl⟩
 ·have h0 : 0 = b := h
  subst h0
  exact ⟨⟨rfl, Nat.le_refl _, hn, rfl⟩, fun x hx => absurd hx (Nat.not_lt_zero _), rfl⟩
 ·rw [List.concat_eq_append] at h ⊢
  have hh := h
  obtain ⟨m, h1, h2, h3, h4, h5⟩ := okTo_app.1 h
  have h6 : a.hi + 1 = b := h5
  rw [arc_snoc]
  by_cases e : a.nx = n
  ·rw [if_pos e]
   refine ⟨okTo_app.2 ⟨m, h1, h2, by show a.lo ≤ b; omega, h4, rfl⟩, fun x hx => ?_, ?_⟩
   ·by_cases hm : x < m
    ·rw [next_left h1 (Nat.zero_le _) hm, next_left h1 (Nat.zero_le _) hm]
    ·rw [next_right h1 (by omega), next_right h1 (by omega)]
     show (if a.lo ≤ x ∧ x ≤ b then a.nx else 0) = if a.lo ≤ x ∧ x ≤ a.hi then a.nx else 0
     rw [if_pos (by omega), if_pos (by omega)]
   ·rw [next_right h1 (by have := okTo_le h1; omega)]
    show (if a.lo ≤ b ∧ b ≤ b then a.nx else 0) = n
    rw [if_pos (by omega)]
    exact e
  ·rw [if_neg e]
   refine ⟨okTo_app.2 ⟨b, hh, rfl, Nat.le_refl _, hn, rfl⟩, fun x hx => next_left hh (Nat.zero_le _) hx, ?_⟩
   rw [next_right hh (Nat.le_refl _), nextL, if_pos ⟨Nat.le_refl _, Nat.le_refl _⟩]
theorem idxC_some {c : Nat → Nat} {order : List Nat} {t n : Nat} (h : idxC c order t = some n) : ∃ o, order[n]? = some o ∧ c o = c t := by
 obtain ⟨hi, hp, -⟩ := List.findIdx?_eq_some_iff_getElem.1 h
 exact ⟨_, List.getElem?_eq_getElem hi, of_decide_eq_true hp⟩
theorem idxC_none {c : Nat → Nat} {order : List Nat} {t : Nat} (h : idxC c order t = none) : c t ∉ order.map c := by
 intro hm
 obtain ⟨o, ho, he⟩ := List.mem_map.1 hm
 have := List.findIdx?_eq_none_iff.1 h o ho
 exact (of_decide_eq_false this) he
structure RowS (c g : Nat → Nat) (b : Nat) (arcs : List ArcA) (order0 order : List Nat) : Prop where
 chain : okTo order.length 0 arcs b
 tell : ∀ x, x < b → ∃ o, order[nextL arcs x]? = some o ∧ c o = c (g x)
 pre : ∃ ext, order = order0 ++ ext
 dist : (order.map c).Nodup
theorem row_sem {c g : Nat → Nat} {order0 : List Nat} : ∀ (n lo : Nat) (arcs : List ArcA) (order : List Nat), RowS c g lo arcs order0 order → RowS c g (lo + n) (rowL c (sing g lo n) arcs order).1 order0 (rowL c (sing g lo n) arcs order).2
 | 0, lo, arcs, order, h => h
 | n + 1, lo, arcs, order, h => by
  have e1 : sing g lo (n + 1) = (lo, lo, g lo) :: sing g (lo + 1) n := by
   unfold sing
   rw [List.range'_succ]
   rfl
  rw [e1, show lo + (n + 1) = lo + 1 + n by omega]
  cases hi : idxC c order (g lo) with
  | some k =>
   rw [rowL_hit hi]
   obtain ⟨o, ho, hc⟩ := idxC_some hi
   obtain ⟨h1, h2, h3⟩ := arc_ok h.chain (List.getElem?_eq_some_iff.1 ho).1
   refine row_sem n (lo + 1) _ _ ⟨h1, fun x hx => ?_, h.pre, h.dist⟩
   by_cases hx2 : x < lo
   ·rw [h2 x hx2]; exact h.tell x hx2
   ·rw [show x = lo by omega, h3]; exact ⟨o, ho, hc⟩
  | none =>
   rw [rowL_miss hi]
   obtain ⟨h1, h2, h3⟩ := arc_ok (okTo_mono (show order.length ≤ (order ++ [g lo]).length by simp) h.chain) (show order.length < (order ++ [g lo]).length by simp)
   refine row_sem n (lo + 1) _ _ ⟨h1, fun x hx => ?_, ?_, ?_⟩
   ·by_cases hx2 : x < lo
    ·obtain ⟨o, ho, hc⟩ := h.tell x hx2
     refine ⟨o, ?_, hc⟩
     rw [h2 x hx2, List.getElem?_append_left (List.getElem?_eq_some_iff.1 ho).1, ho]
    ·rw [show x = lo by omega, h3]
     exact ⟨g lo, by simp, rfl⟩
   ·obtain ⟨ext, he⟩ := h.pre
    exact ⟨ext ++ [g lo], by rw [he, List.append_assoc]⟩
   ·rw [List.map_append]
    exact nodup_snoc h.dist (idxC_none hi)
structure NumS (c : Nat → Nat) (g : Nat → Nat → Nat) (acc : Nat → Bool) (i : Nat) (order : List Nat) (out : List StA) : Prop where
 len : out.length = i
 le : i ≤ order.length
 dist : (order.map c).Nodup
 rows : ∀ j, j < i → ∃ s q, out[j]? = some s ∧ order[j]? = some q ∧ s.acc = acc q ∧ okTo order.length 0 s.arcs 256 ∧ ∀ x, x < 256 → ∃ o, order[nextL s.arcs x]? = some o ∧ c o = c (g q x)
theorem num_step2 {c : Nat → Nat} {g : Nat → Nat → Nat} {acc : Nat → Bool} {i : Nat} {order : List Nat} {out : List StA} (h : NumS c g acc i order out) {q : Nat} (hq : order[i]? = some q) :
  NumS c g acc (i + 1) (rowL c (sing (g q) 0 256) [] order).2 (out ++ [⟨acc q, (rowL c (sing (g q) 0 256) [] order).1⟩]) ∧ ∃ ext, (rowL c (sing (g q) 0 256) [] order).2 = order ++ ext := by
 have hr := row_sem (c := c) (g := g q) (order0 := order) 256 0 [] order ⟨rfl, fun x hx => absurd hx (Nat.not_lt_zero _), ⟨[], by simp⟩, h.dist⟩
 generalize rowL c (sing (g q) 0 256) [] order = r at *
 obtain ⟨ext, he⟩ := hr.pre
 have hil := (List.getElem?_eq_some_iff.1 hq).1
 have hle : order.length ≤ r.2.length := by rw [he]; simp
 have hget : ∀ j o, order[j]? = some o → r.2[j]? = some o := fun j o ho => by rw [he, List.getElem?_append_left (List.getElem?_eq_some_iff.1 ho).1, ho]
 refine ⟨⟨by rw [List.length_append, h.len]; rfl, by omega, hr.dist, fun j hj => ?_⟩, ext, he⟩
 by_cases hji : j < i
 ·obtain ⟨s, p, h1, h2, h3, h4, h5⟩ := h.rows j hji
  refine ⟨s, p, ?_, hget _ _ h2, h3, okTo_mono hle h4, fun x hx => ?_⟩
  ·rw [List.getElem?_append_left (by rw [h.len]; exact hji), h1]
  ·obtain ⟨o, h6, h7⟩ := h5 x hx
   exact ⟨o, hget _ _ h6, h7⟩
 ·have hj2 : j = i := by omega
  subst hj2
  refine ⟨⟨acc q, r.1⟩, q, ?_, hget _ _ hq, rfl, by have := hr.chain; rwa [Nat.zero_add] at this, fun x hx => hr.tell x (by omega)⟩
  rw [List.getElem?_append_right (by rw [h.len]; exact Nat.le_refl _), h.len]
  simp
theorem pigeon : ∀ (k : Nat) (l : List Nat), l.Nodup → (∀ x ∈ l, x < k) → l.length ≤ k
 | 0, l, _, h => by
  cases l with
  | nil => exact Nat.le_refl _
  | cons a t => exact absurd (h a List.mem_cons_self) (Nat.not_lt_zero _)
 | k + 1, l, hn, h => by
  have h1 := pigeon k (l.erase k) (hn.erase k) (fun x hx => by
   have h2 := (hn.mem_erase_iff).1 hx
   have := h x h2.2
   have := h2.1
   omega)
  have h3 : l.length ≤ (l.erase k).length + 1 := by
   rw [List.length_erase]
   split <;> omega
  omega
theorem num_some {c : Nat → Nat} {g : Nat → Nat → Nat} {acc : Nat → Bool} {n k : Nat} (hg : ∀ q, q < n → ∀ b, g q b < n) (hc : ∀ q, q < n → c q < k) : ∀ (f i : Nat) (order : List Nat) (out : List StA), NumS c g acc i order out → (∀ o ∈ order, o < n) → k + 1 ≤ f + i →
  ∃ res order', numbL c g acc f i order out = some res ∧ NumS c g acc order'.length order' res ∧ (∀ o ∈ order', o < n) ∧ (∃ ext, order' = order ++ ext) ∧ order'.length ≤ k
 | 0, i, order, out, h, ho, hf => by
  exfalso
  have h1 := pigeon k (order.map c) h.dist (fun x hx => by
   obtain ⟨o, h2, rfl⟩ := List.mem_map.1 hx
   exact hc o (ho o h2))
  rw [List.length_map] at h1
  have := h.le
  omega
 | f + 1, i, order, out, h, ho, hf => by
  rw [numbL]
  cases hq : order[i]? with
  | none =>
   have hi : i = order.length := by
    have h1 := h.le
    have h2 := List.getElem?_eq_none_iff.1 hq
    omega
   refine ⟨out, order, rfl, hi ▸ h, ho, ⟨[], by simp⟩, ?_⟩
   have h1 := pigeon k (order.map c) h.dist (fun x hx => by
    obtain ⟨o, h2, rfl⟩ := List.mem_map.1 hx
    exact hc o (ho o h2))
   rwa [List.length_map] at h1
  | some q =>
   obtain ⟨h1, ext, h2⟩ := num_step2 h hq
   obtain ⟨res, order', h3, h4, h5, ⟨ext2, h6⟩, h7⟩ := num_some hg hc f (i + 1) _ _ h1 (rowL_mem (P := fun o => o < n) _ _ _ (fun x hx => by
    obtain ⟨b, -, rfl⟩ := List.mem_map.1 hx
    exact hg q (ho q (List.mem_of_getElem? hq)) b) ho) (by omega)
   exact ⟨res, order', h3, h4, h5, ⟨ext ++ ext2, by rw [h6, h2, List.append_assoc]⟩, h7⟩
theorem next_step {n : Nat} : ∀ (l : List ArcA) (b x : Nat), okArcs n b l = true → b ≤ x → nextL l x = stepL l x
 | [], _, _, _, _ => rfl
 | a :: t, b, x, h, hx => by
  unfold okArcs at h
  simp only [Bool.and_eq_true, decide_eq_true_eq] at h
  rw [nextL, stepL]
  by_cases e : x ≤ a.hi
  ·rw [if_pos ⟨by omega, e⟩, if_pos e]
  ·rw [if_neg (fun h2 => e h2.2), if_neg e]
   exact next_step t _ x h.2 (by omega)
theorem starts_at {m : List StA} (hv : valA m = true) : ∀ x, x < 256 → ∃ b ∈ startsA m, ∀ q, q < m.length → gA m q x = gA m q b
 | 0, _ => by
  obtain ⟨t, ht⟩ := starts_cons hv
  exact ⟨0, by rw [ht]; simp, fun _ _ => rfl⟩
 | x + 1, h => by
  by_cases hx : x + 1 ∈ startsA m
  ·exact ⟨x + 1, hx, fun _ _ => rfl⟩
  ·obtain ⟨b, hb, h1⟩ := starts_at hv x (by omega)
   exact ⟨b, hb, fun q hq => (starts_const hv hq (by omega) h hx).trans (h1 q hq)⟩
def nxA (m : List StA) : List (List Nat) := m.map fun s => (startsA m).map (stepL s.arcs)
def clA (m : List StA) : List Nat := m.map fun s => if s.acc then 1 else 0
theorem nxA_at {m : List StA} {q : Nat} (hq : q < m.length) : (nxA m).getD q [] = (startsA m).map (gA m q) := by
 unfold nxA
 rw [List.getD_eq_getElem?_getD, List.getElem?_map, List.getElem?_eq_getElem hq]
 unfold gA arcsOf
 rw [List.getElem?_eq_getElem hq]
 rfl
theorem clA_at {m : List StA} {q : Nat} (hq : q < m.length) : (clA m).getD q 0 = if accOf m q = true then 1 else 0 := by
 unfold clA accOf
 rw [List.getD_eq_getElem?_getD, List.getElem?_map, List.getElem?_eq_getElem hq]
 rfl
theorem vla_len {m : List StA} (hv : valA m = true) : 0 < m.length := by
 unfold valA at hv
 simp only [Bool.and_eq_true, decide_eq_true_eq] at hv
 exact hv.1.1
theorem rnd_zero {m : List StA} : RndI m.length (clA m) 0 := ⟨by unfold clA; simp, fun i => by
 unfold clA
 rw [List.getD_eq_getElem?_getD, List.getElem?_map]
 cases m[i]? with
 | none => show (0 : Nat) < 1000; omega
 | some s => show (if s.acc then 1 else 0) < 1000; split <;> omega, .inl rfl⟩
structure ClsQ (m : List StA) (fin : List Nat) (k : Nat) : Prop where
 len : fin.length = m.length
 le : k ≤ m.length
 lt : ∀ q, q < m.length → fin.getD q 0 < k
 acc : ∀ q p, q < m.length → p < m.length → fin.getD q 0 = fin.getD p 0 → accOf m q = accOf m p
 step : ∀ q p, q < m.length → p < m.length → fin.getD q 0 = fin.getD p 0 → ∀ x, x < 256 → fin.getD (gA m q x) 0 = fin.getD (gA m p x) 0
 coarse : ∀ E : Nat → Nat → Prop, (∀ q p, E q p → q < m.length ∧ p < m.length ∧ accOf m q = accOf m p ∧ ∀ x, x < 256 → E (gA m q x) (gA m p x)) → ∀ q p, E q p → fin.getD q 0 = fin.getD p 0
theorem loop_cls {m : List StA} (hv : valA m = true) (hn : m.length < 1000) (f : Nat) (hf : m.length + 2 ≤ f) : ∃ fin k, loopA (nxA m) f (clA m) 0 = some fin ∧ ClsQ m fin k := by
 obtain ⟨fin, h1, h2⟩ := loopG_q m.length (nxA m) (vla_len hv) hn f (clA m) 0 rnd_zero (by omega)
 have hq := round_q (rowsK fin (nxA m))
 rw [rowsK_len, h2.len, h2.stab] at hq
 refine ⟨fin, (roundG (rowsK fin (nxA m)) []).2, by rw [loopA_G m.length _ hn f _ _ rnd_zero, h1], h2.len, hq.le, hq.lt, fun q p hq1 hp1 he => ?_, fun q p hq1 hp1 he x hx => ?_, fun E hE q p h => ?_⟩
 ·have := h2.fine q p hq1 hp1 he
  rw [clA_at hq1, clA_at hp1] at this
  cases h3 : accOf m q <;> cases h4 : accOf m p <;> rw [h3, h4] at this <;> first | rfl | cases this
 ·have h3 := (hq.iff q p _ _ (rowsK_at fin (nxA m) q (by rw [h2.len]; exact hq1)) (rowsK_at fin (nxA m) p (by rw [h2.len]; exact hp1))).1 he
  have h4 := (List.cons.inj h3).2
  rw [nxA_at hq1, nxA_at hp1, List.map_map, List.map_map] at h4
  obtain ⟨b, hb, h5⟩ := starts_at hv x hx
  rw [h5 q hq1, h5 p hp1]
  exact List.map_inj_left.1 h4 b hb
 ·refine h2.coarse E (fun i j hij => ?_) (fun i j hij => ?_) q p h
  ·obtain ⟨e1, e2, e3, e4⟩ := hE i j hij
   refine ⟨e1, e2, fun c hc => ?_⟩
   rw [nxA_at e1, nxA_at e2, List.map_map, List.map_map]
   exact List.map_congr_left (fun b hb => hc _ _ (e4 b (starts_lt m b hb)))
  ·obtain ⟨e1, e2, e3, e4⟩ := hE i j hij
   rw [clA_at e1, clA_at e2, e3]
theorem least_L {m : List StA} (hv : valA m = true) {f : Nat} {fin : List Nat} (h : loopA (nxA m) f (clA m) 0 = some fin) : leastA f m = numbL (fun i => fin.getD i 0) (gA m) (accOf m) f 0 [0] [] := by
 rw [← num_L hv fin f 0 [0] [] (fun o ho => by rw [List.mem_singleton.1 ho]; exact vla_len hv)]
 unfold leastA
 show (match loopA (nxA m) f (clA m) 0 with | none => none | some cl => numA m (startsA m) cl (nxA m) f 0 [0] []) = _
 rw [h]
 rfl
theorem least_sem {m : List StA} (hv : valA m = true) (hn : m.length < 1000) (f : Nat) (hf : m.length + 2 ≤ f) : ∃ out, leastA f m = some out ∧ valA out = true ∧ out.length ≤ m.length ∧ ∀ s : List UInt8, accOf out (runA out 0 s) = accOf m (runA m 0 s) := by
 obtain ⟨fin, k, h1, hc⟩ := loop_cls hv hn f hf
 have h0 := vla_len hv
 obtain ⟨res, order, h2, h3, h4, ⟨ext, h5⟩, h6⟩ := num_some (c := fun i => fin.getD i 0) (g := gA m) (acc := accOf m) (n := m.length) (k := k) (fun q hq b => gA_lt hv hq b) hc.lt f 0 [0] [] ⟨rfl, Nat.zero_le _, by simp, fun j hj => absurd hj (Nat.not_lt_zero _)⟩ (fun o ho => by rw [List.mem_singleton.1 ho]; exact h0) (by have := hc.le; omega)
 have hrl := h3.len
 have hol : 1 ≤ order.length := by rw [h5]; simp
 refine ⟨res, by rw [least_L hv h1, h2], ?_, by rw [hrl]; have := hc.le; omega, ?_⟩
 ·unfold valA
  simp only [Bool.and_eq_true, decide_eq_true_eq]
  have := hc.le
  refine ⟨⟨by omega, by omega⟩, ?_⟩
  rw [List.all_eq_true]
  intro s hs
  obtain ⟨j, hj⟩ := List.mem_iff_getElem?.1 hs
  have hjl := (List.getElem?_eq_some_iff.1 hj).1
  obtain ⟨s', q, e1, e2, e3, e4, e5⟩ := h3.rows j (by omega)
  rw [hj] at e1
  rw [Option.some.inj e1, hrl]
  exact okTo_ok e4
 ·have hsim : ∀ (s : List UInt8) (i q : Nat), q < m.length → (∃ o, order[i]? = some o ∧ fin.getD o 0 = fin.getD q 0) → accOf res (runA res i s) = accOf m (runA m q s) := by
   intro s
   induction s with
   | nil =>
    rintro i q hq ⟨o, ho, he⟩
    have hil := (List.getElem?_eq_some_iff.1 ho).1
    obtain ⟨s', p, e1, e2, e3, e4, e5⟩ := h3.rows i hil
    rw [ho] at e2
    have := Option.some.inj e2
    subst this
    show accOf res i = accOf m q
    rw [show accOf res i = s'.acc from by unfold accOf; rw [e1], e3]
    exact hc.acc o q (h4 o (List.mem_of_getElem? ho)) hq he
   | cons c s ih =>
    rintro i q hq ⟨o, ho, he⟩
    have hil := (List.getElem?_eq_some_iff.1 ho).1
    obtain ⟨s', p, e1, e2, e3, e4, e5⟩ := h3.rows i hil
    rw [ho] at e2
    have := Option.some.inj e2
    subst this
    rw [runA, runA, show arcsOf res i = s'.arcs from by unfold arcsOf; rw [e1], next_step _ 0 c.toNat (val_arcs hv hq) (Nat.zero_le _)]
    obtain ⟨o2, e6, e7⟩ := e5 c.toNat c.toNat_lt
    refine ih _ _ (gA_lt hv hq c.toNat) ⟨o2, e6, e7.trans (hc.step o q (h4 o (List.mem_of_getElem? ho)) hq he c.toNat c.toNat_lt)⟩
  intro s
  exact hsim s 0 0 h0 ⟨0, by rw [h5]; rfl, rfl⟩
theorem least_same {m1 m2 : List StA} (hv1 : valA m1 = true) (hv2 : valA m2 = true) (hn1 : m1.length < 1000) (hn2 : m2.length < 1000) {E : Nat → Nat → Prop} (h0 : E 0 0)
  (hE : ∀ q p, E q p → q < m1.length ∧ p < m2.length ∧ accOf m1 q = accOf m2 p ∧ ∀ x, x < 256 → E (gA m1 q x) (gA m2 p x)) (f : Nat) (hf1 : m1.length + 2 ≤ f) (hf2 : m2.length + 2 ≤ f) : leastA f m1 = leastA f m2 := by
 obtain ⟨c1, k1, h1, q1⟩ := loop_cls hv1 hn1 f hf1
 obtain ⟨c2, k2, h2, q2⟩ := loop_cls hv2 hn2 f hf2
 rw [least_L hv1 h1, least_L hv2 h2]
 have := num_sync (c1 := fun i => c1.getD i 0) (c2 := fun i => c2.getD i 0) (g1 := gA m1) (g2 := gA m2) (a1 := accOf m1) (a2 := accOf m2) (E := E) (fun a b x y hax hby => ⟨fun he => ?_, fun he => ?_⟩) (fun q p h b hb => (hE q p h).2.2.2 b hb) (fun q p h => (hE q p h).2.2.1) f 0 [(0, 0)] [] (fun z hz => by rw [List.mem_singleton.1 hz]; exact h0)
 ·exact this
 ·refine q2.coarse (fun x y => ∃ a b, E a x ∧ E b y ∧ c1.getD a 0 = c1.getD b 0) (fun x y ⟨a, b, h3, h4, h5⟩ => ?_) x y ⟨a, b, hax, hby, he⟩
  obtain ⟨a1, a2, a3, a4⟩ := hE a x h3
  obtain ⟨b1, b2, b3, b4⟩ := hE b y h4
  exact ⟨a2, b2, by rw [← a3, ← b3]; exact q1.acc a b a1 b1 h5, fun z hz => ⟨_, _, a4 z hz, b4 z hz, q1.step a b a1 b1 h5 z hz⟩⟩
 ·refine q1.coarse (fun a b => ∃ x y, E a x ∧ E b y ∧ c2.getD x 0 = c2.getD y 0) (fun a b ⟨x, y, h3, h4, h5⟩ => ?_) a b ⟨x, y, hax, hby, he⟩
  obtain ⟨a1, a2, a3, a4⟩ := hE a x h3
  obtain ⟨b1, b2, b3, b4⟩ := hE b y h4
  exact ⟨a1, b1, by rw [a3, b3]; exact q2.acc x y a2 b2 h5, fun z hz => ⟨_, _, a4 z hz, b4 z hz, q2.step x y a2 b2 h5 z hz⟩⟩
end Go.Proofs.YtpkecepelcppiaaGreatDoor

namespace Go.Proofs.YtpkecepelcppiaaGreatDoor
open Go.RowKit
set_option maxRecDepth 100000
set_option maxHeartbeats 1000000

def toS (k b : Nat) : Nat :=
 if k = 0 then (if b ≤ 127 then 0 else if 194 ≤ b ∧ b ≤ 223 then 1 else if b = 224 then 2 else if b = 237 then 4 else if 225 ≤ b ∧ b ≤ 239 then 3 else if b = 240 then 5 else if 241 ≤ b ∧ b ≤ 243 then 6 else if b = 244 then 7 else 8)
 else if k = 1 then (if 128 ≤ b ∧ b ≤ 191 then 0 else 8)
 else if k = 2 then (if 160 ≤ b ∧ b ≤ 191 then 1 else 8)
 else if k = 3 then (if 128 ≤ b ∧ b ≤ 191 then 1 else 8)
 else if k = 4 then (if 128 ≤ b ∧ b ≤ 159 then 1 else 8)
 else if k = 5 then (if 144 ≤ b ∧ b ≤ 191 then 3 else 8)
 else if k = 6 then (if 128 ≤ b ∧ b ≤ 191 then 3 else 8)
 else if k = 7 then (if 128 ≤ b ∧ b ≤ 143 then 3 else 8)
 else 8
def cntStep (p : Nat × Nat) (b : Nat) : Nat × Nat := (if toS p.2 b = 0 then p.1 + 1 else p.1, toS p.2 b)
def cntRun : Nat × Nat → List UInt8 → Nat × Nat
 | p, [] => p
 | p, c :: t => cntRun (cntStep p c.toNat) t
def wk (k : Nat) : Nat := if k = 1 then 1 else if k = 2 then 4 else if k = 3 then 2 else if k = 4 then 5 else if k = 5 then 6 else if k = 6 then 3 else if k = 7 then 7 else 0
def kw (w : Nat) : Nat := if w = 1 then 1 else if w = 4 then 2 else if w = 2 then 3 else if w = 5 then 4 else if w = 6 then 5 else if w = 3 then 6 else if w = 7 then 7 else 0
def lookS : List ArcA → Nat → Option Nat
 | [], _ => none
 | a :: t, b => if a.lo ≤ b ∧ b ≤ a.hi then some a.nx else lookS t b
theorem span_to : (List.range 8).all (fun w => (List.range 256).all fun b => match lookS (spansA w) b with | none => decide (toS (kw w) b = 8) | some x => decide (toS (kw w) b = kw x) && decide (x < 8)) = true := by decide +kernel
theorem spanT_at {w b : Nat} (hw : w < 8) (hb : b < 256) : match lookS (spansA w) b with | none => toS (kw w) b = 8 | some x => toS (kw w) b = kw x ∧ x < 8 := by
 have h1 := List.all_eq_true.1 (List.all_eq_true.1 span_to w (List.mem_range.2 hw)) b (List.mem_range.2 hb)
 revert h1
 cases lookS (spansA w) b with
 | none => exact fun h => of_decide_eq_true h
 | some x => exact fun h => by simpa using h
def srt : Nat → List ArcA → Prop
 | _, [] => True
 | b, a :: t => b ≤ a.lo ∧ a.lo ≤ a.hi ∧ a.hi ≤ 255 ∧ srt (a.hi + 1) t
def srtB : Nat → List ArcA → Bool
 | _, [] => true
 | b, a :: t => decide (b ≤ a.lo) && decide (a.lo ≤ a.hi) && decide (a.hi ≤ 255) && srtB (a.hi + 1) t
theorem srt_of : ∀ (l : List ArcA) (b : Nat), srtB b l = true → srt b l
 | [], _, _ => trivial
 | a :: t, b, h => by
  unfold srtB at h
  simp only [Bool.and_eq_true, decide_eq_true_eq] at h
  exact ⟨h.1.1.1, h.1.1.2, h.1.2, srt_of t _ h.2⟩
theorem span_srt : (List.range 8).all (fun w => srtB 0 (spansA w)) = true := by decide +kernel
theorem span_srt_at {w : Nat} (hw : w < 8) : srt 0 (spansA w) := srt_of _ _ (List.all_eq_true.1 span_srt w (List.mem_range.2 hw))
theorem look_ge : ∀ (l : List ArcA) (b x : Nat), srt b l → x < b → lookS l x = none
 | [], _, _, _, _ => rfl
 | a :: t, b, x, ⟨h1, h2, h3, h4⟩, hx => by
  rw [lookS, if_neg (by omega)]
  exact look_ge t _ x h4 (by omega)
theorem snoc_ok {N : Nat} {out : List ArcA} {b e n : Nat} (h : okTo N 0 out b) (hb : b ≤ e) (hn : n < N) : okTo N 0 (out ++ [⟨b, e, n⟩]) (e + 1) ∧ (∀ x, x < b → nextL (out ++ [⟨b, e, n⟩]) x = nextL out x) ∧ ∀ x, b ≤ x → x ≤ e → nextL (out ++ [⟨b, e, n⟩]) x = n :=
 ⟨okTo_app.2 ⟨b, h, rfl, hb, hn, rfl⟩, fun x hx => next_left h (Nat.zero_le _) hx, fun x h1 h2 => by
  rw [next_right h h1]
  show (if b ≤ x ∧ x ≤ e then n else 0) = n
  rw [if_pos ⟨h1, h2⟩]⟩
theorem go_ok {N dead : Nat} {f : Nat → Nat} (hd : dead < N) : ∀ (l out : List ArcA) (b : Nat), okTo N 0 out b → b ≤ 256 → srt b l → (∀ a ∈ l, f a.nx < N) →
  okTo N 0 (arcsGo dead f out b l) 256 ∧ (∀ x, x < b → nextL (arcsGo dead f out b l) x = nextL out x) ∧ ∀ x, b ≤ x → x < 256 → nextL (arcsGo dead f out b l) x = (match lookS l x with | some y => f y | none => dead)
 | [], out, b, h, hb, _, _ => by
  rw [arcsGo]
  by_cases h1 : b ≤ 255
  ·rw [if_pos h1]
   obtain ⟨h2, h3, h4⟩ := snoc_ok (e := 255) h h1 hd
   exact ⟨h2, h3, fun x hx1 hx2 => h4 x hx1 (by omega)⟩
  ·rw [if_neg h1]
   have : b = 256 := by omega
   subst this
   exact ⟨h, fun _ _ => rfl, fun x h1 h2 => by omega⟩
 | a :: t, out, b, h, hb, ⟨h1, h2, h3, h4⟩, hf => by
  rw [arcsGo]
  have hfa := hf a List.mem_cons_self
  have hft := fun x hx => hf x (List.mem_cons_of_mem a hx)
  by_cases hlt : b < a.lo
  ·rw [if_pos hlt]
   obtain ⟨e1, e2, e3⟩ := snoc_ok (e := a.lo - 1) h (show b ≤ a.lo - 1 by omega) hd
   rw [show a.lo - 1 + 1 = a.lo by omega] at e1
   obtain ⟨i1, i2, i3⟩ := snoc_ok (e := a.hi) (n := f a.nx) e1 h2 hfa
   obtain ⟨j1, j2, j3⟩ := go_ok hd t _ _ i1 (by omega) h4 hft
   refine ⟨j1, fun x hx => by rw [j2 x (by omega), i2 x (by omega), e2 x hx], fun x hx1 hx2 => ?_⟩
   rw [lookS]
   by_cases hx3 : x < a.lo
   ·rw [j2 x (by omega), i2 x hx3, e3 x hx1 (by omega), if_neg (by omega), look_ge t _ x h4 (by omega)]
   ·by_cases hx4 : x ≤ a.hi
    ·rw [j2 x (by omega), i3 x (by omega) hx4, if_pos ⟨by omega, hx4⟩]
    ·rw [if_neg (by omega)]
     exact j3 x (by omega) hx2
  ·rw [if_neg hlt]
   have hbe : a.lo = b := by omega
   rw [hbe] at h2 ⊢
   obtain ⟨i1, i2, i3⟩ := snoc_ok (e := a.hi) (n := f a.nx) h h2 hfa
   obtain ⟨j1, j2, j3⟩ := go_ok hd t _ _ i1 (by omega) h4 hft
   refine ⟨j1, fun x hx => by rw [j2 x (by omega), i2 x hx], fun x hx1 hx2 => ?_⟩
   rw [lookS]
   by_cases hx4 : x ≤ a.hi
   ·rw [j2 x (by omega), i3 x hx1 hx4, if_pos ⟨by omega, hx4⟩]
   ·rw [if_neg (by omega)]
    exact j3 x (by omega) hx2
/-! The program's automaton. -/
theorem next_lt {mx : Int} {top count want nx : Nat} (hc : count ≤ top) (hx : nx < 8) : nextC mx top count want nx < (top + 1) * 8 + 1 := by
 unfold nextC
 split
 ·omega
 ·split
  ·omega
  ·split <;> omega
theorem spans_nx {w : Nat} (hw : w < 8) : ∀ a ∈ spansA w, a.nx < 8 := by
 have h : (List.range 8).all (fun w => (spansA w).all fun a => decide (a.nx < 8)) = true := by decide +kernel
 intro a ha
 exact of_decide_eq_true (List.all_eq_true.1 (List.all_eq_true.1 h w (List.mem_range.2 hw)) a ha)
theorem arcsC_ok (mx : Int) {top count want : Nat} (hc : count ≤ top) (hw : want < 8) : okTo ((top + 1) * 8 + 1) 0 (arcsC mx top count want) 256 ∧ ∀ x, x < 256 → nextL (arcsC mx top count want) x = (match lookS (spansA want) x with | some y => nextC mx top count want y | none => (top + 1) * 8) := by
 obtain ⟨h1, -, h3⟩ := go_ok (N := (top + 1) * 8 + 1) (dead := (top + 1) * 8) (f := nextC mx top count want) (by omega) (spansA want) [] 0 rfl (by omega) (span_srt_at hw) (fun a ha => next_lt hc (spans_nx hw a ha))
 exact ⟨h1, fun x hx => h3 x (Nat.zero_le _) hx⟩
theorem statesC_at (mn : Nat) (mx : Int) {top : Nat} {count want : Nat} (hc : count ≤ top) (hw : want < 8) : (statesC mn mx top)[count * 8 + want]? = some ⟨decide (want = 0) && decide (mn ≤ count), arcsC mx top count want⟩ := by
 unfold statesC
 have h : ∀ (n : Nat), count < n → ((List.range n).flatMap fun c => (List.range 8).map fun w => (⟨decide (w = 0) && decide (mn ≤ c), arcsC mx top c w⟩ : StA))[count * 8 + want]? = some ⟨decide (want = 0) && decide (mn ≤ count), arcsC mx top count want⟩ := by
  intro n
  have hl : ∀ n, ((List.range n).flatMap fun c => (List.range 8).map fun w => (⟨decide (w = 0) && decide (mn ≤ c), arcsC mx top c w⟩ : StA)).length = n * 8 := by
   intro n
   induction n with
   | zero => rfl
   | succ n ih => rw [List.range_succ (n := n), List.flatMap_append, List.length_append, ih]; simp; omega
  induction n with
  | zero => intro h; exact absurd h (Nat.not_lt_zero _)
  | succ n ih =>
   intro hlt
   rw [List.range_succ (n := n), List.flatMap_append]
   by_cases he : count < n
   ·rw [List.getElem?_append_left (by rw [hl]; omega)]
    exact ih he
   ·have : count = n := by omega
    subst this
    rw [List.getElem?_append_right (by rw [hl]; omega), hl, show count * 8 + want - count * 8 = want by omega]
    simp only [List.flatMap_cons, List.flatMap_nil, List.append_nil]
    rw [List.getElem?_map, List.getElem?_range hw]
    rfl
 exact h (top + 1) (by omega)
theorem statesC_len (mn : Nat) (mx : Int) (top : Nat) : (statesC mn mx top).length = (top + 1) * 8 := by
 unfold statesC
 generalize top + 1 = n
 induction n with
 | zero => rfl
 | succ n ih =>
  rw [List.range_succ (n := n), List.flatMap_append, List.length_append, ih]
  simp
  omega
theorem machC_len (mn : Nat) (mx : Int) (top : Nat) : (machC mn mx top).length = (top + 1) * 8 + 1 := by
 unfold machC
 rw [List.length_append, statesC_len]
 rfl
theorem machC_at (mn : Nat) (mx : Int) {top : Nat} {count want : Nat} (hc : count ≤ top) (hw : want < 8) : (machC mn mx top)[count * 8 + want]? = some ⟨decide (want = 0) && decide (mn ≤ count), arcsC mx top count want⟩ := by
 unfold machC
 rw [List.getElem?_append_left (by rw [statesC_len]; omega)]
 exact statesC_at mn mx hc hw
theorem machC_dead (mn : Nat) (mx : Int) (top : Nat) : (machC mn mx top)[(top + 1) * 8]? = some ⟨false, [⟨0, 255, (top + 1) * 8⟩]⟩ := by
 unfold machC
 rw [List.getElem?_append_right (by rw [statesC_len]; omega), statesC_len, Nat.sub_self]
 rfl
theorem machC_val (mn : Nat) (mx : Int) (top : Nat) (ht : top ≤ 101) : valA (machC mn mx top) = true := by
 unfold valA
 rw [machC_len]
 simp only [Bool.and_eq_true, decide_eq_true_eq]
 refine ⟨⟨by omega, by omega⟩, ?_⟩
 rw [List.all_eq_true]
 intro s hs
 obtain ⟨j, hj⟩ := List.mem_iff_getElem?.1 hs
 have hjl := (List.getElem?_eq_some_iff.1 hj).1
 rw [machC_len] at hjl
 by_cases hd : j = (top + 1) * 8
 ·rw [hd, machC_dead] at hj
  rw [← Option.some.inj hj]
  exact okTo_ok (n := (top + 1) * 8 + 1) (l := [⟨0, 255, (top + 1) * 8⟩]) ⟨rfl, Nat.zero_le _, by show (top + 1) * 8 < _; omega, rfl⟩
 ·have h1 := machC_at mn mx (top := top) (count := j / 8) (want := j % 8) (by omega) (by omega)
  rw [show j / 8 * 8 + j % 8 = j by omega, hj] at h1
  rw [Option.some.inj h1]
  exact okTo_ok (arcsC_ok mx (by omega) (by omega)).1
def relQ (mx : Int) (top n k : Nat) : Nat :=
 if k = 8 then (top + 1) * 8
 else if k = 0 then (if mx = -1 then min n top * 8 else if n ≤ top then n * 8 else (top + 1) * 8)
 else if mx = -1 then min (n + 1) top * 8 + wk k else if n + 1 ≤ top then (n + 1) * 8 + wk k else (top + 1) * 8
theorem kw_wk {k : Nat} (h : k < 8) : kw (wk k) = k := by
 have h1 : (List.range 8).all (fun k => decide (kw (wk k) = k)) = true := by decide +kernel
 exact of_decide_eq_true (List.all_eq_true.1 h1 k (List.mem_range.2 h))
theorem wk_lt (k : Nat) : wk k < 8 := by unfold wk; repeat (first | omega | split)
theorem wk_kw {w : Nat} (h : w < 8) : wk (kw w) = w := by
 have h1 : (List.range 8).all (fun w => decide (wk (kw w) = w)) = true := by decide +kernel
 exact of_decide_eq_true (List.all_eq_true.1 h1 w (List.mem_range.2 h))
theorem kw_lt (w : Nat) : kw w < 8 := by unfold kw; repeat (first | omega | split)
theorem toS_le (k b : Nat) : toS k b ≤ 8 := by unfold toS; repeat (first | omega | split)
theorem toS_8 (b : Nat) : toS 8 b = 8 := rfl
theorem runC_at (mn : Nat) (mx : Int) {top count want b : Nat} (hc : count ≤ top) (hw : want < 8) (hb : b < 256) : nextL (arcsOf (machC mn mx top) (count * 8 + want)) b = (if toS (kw want) b = 8 then (top + 1) * 8 else nextC mx top count want (wk (toS (kw want) b))) := by
 unfold arcsOf
 rw [machC_at mn mx hc hw]
 dsimp only
 rw [(arcsC_ok mx hc hw).2 b hb]
 have h := spanT_at hw hb
 revert h
 cases lookS (spansA want) b with
 | none => intro h; dsimp only at h ⊢; rw [if_pos h]
 | some x =>
  intro h
  dsimp only at h ⊢
  rw [if_neg (by rw [h.1]; have := kw_lt x; omega), h.1, wk_kw h.2]
theorem runC_dead (mn : Nat) (mx : Int) (top b : Nat) (hb : b < 256) : nextL (arcsOf (machC mn mx top) ((top + 1) * 8)) b = (top + 1) * 8 := by
 unfold arcsOf
 rw [machC_dead]
 show (if 0 ≤ b ∧ b ≤ 255 then (top + 1) * 8 else 0) = _
 rw [if_pos ⟨Nat.zero_le _, by omega⟩]
theorem relC_step (mn : Nat) (mx : Int) (top n k b : Nat) (hk : k ≤ 8) (hb : b < 256) : nextL (arcsOf (machC mn mx top) (relQ mx top n k)) b = relQ mx top (cntStep (n, k) b).1 (cntStep (n, k) b).2 := by
 have h8 := toS_le k b
 show _ = relQ mx top (if toS k b = 0 then n + 1 else n) (toS k b)
 by_cases e8 : k = 8
 ·subst e8
  rw [toS_8]
  exact runC_dead mn mx top b hb
 ·by_cases e0 : k = 0
  ·subst e0
   have hq : relQ mx top n 0 = if mx = -1 then min n top * 8 else if n ≤ top then n * 8 else (top + 1) * 8 := rfl
   rw [hq]
   by_cases em : mx = -1
   ·rw [if_pos em]
    have h1 := runC_at mn mx (top := top) (count := min n top) (want := 0) (by omega) (by omega) hb
    rw [Nat.add_zero, show kw 0 = 0 from rfl] at h1
    rw [h1]
    have hwk := wk_lt (toS 0 b)
    unfold relQ nextC
    by_cases t8 : toS 0 b = 8
    ·rw [if_pos t8, if_pos t8]
    ·rw [if_neg t8, if_neg t8, if_neg (by omega)]
     by_cases t0 : toS 0 b = 0
     ·rw [t0, if_pos rfl, if_pos rfl, if_pos em, if_pos em]
      show (if min n top < top then (min n top + 1) * 8 + 0 else min n top * 8 + 0) = _
      split <;> omega
     ·rw [if_neg t0, if_neg t0, if_pos em, if_pos em]
      split <;> omega
   ·rw [if_neg em]
    by_cases en : n ≤ top
    ·rw [if_pos en]
     have h1 := runC_at mn mx (top := top) (count := n) (want := 0) en (by omega) hb
     rw [Nat.add_zero, show kw 0 = 0 from rfl] at h1
     rw [h1]
     unfold relQ nextC
     by_cases t8 : toS 0 b = 8
     ·rw [if_pos t8, if_pos t8]
     ·rw [if_neg t8, if_neg t8, if_neg (by omega), if_neg em]
      by_cases t0 : toS 0 b = 0
      ·rw [t0, if_pos rfl, if_pos rfl, if_neg em]
       show (if n < top then (n + 1) * 8 + 0 else (top + 1) * 8) = _
       split <;> split <;> omega
      ·rw [if_neg t0, if_neg t0, if_neg em]
       split <;> split <;> omega
    ·rw [if_neg en, runC_dead mn mx top b hb]
     unfold relQ
     rw [if_neg em, if_neg em]
     by_cases t8 : toS 0 b = 8
     ·rw [if_pos t8]
     ·rw [if_neg t8]
      by_cases t0 : toS 0 b = 0
      ·rw [if_pos t0, if_pos t0, if_neg (by omega)]
      ·rw [if_neg t0, if_neg t0, if_neg (by omega)]
  ·have hq : relQ mx top n k = if mx = -1 then min (n + 1) top * 8 + wk k else if n + 1 ≤ top then (n + 1) * 8 + wk k else (top + 1) * 8 := by
    unfold relQ
    rw [if_neg e8, if_neg e0]
   have hwk0 : wk k ≠ 0 := fun e => by
    have := kw_wk (k := k) (by omega)
    rw [e] at this
    exact e0 this.symm
   rw [hq]
   by_cases em : mx = -1
   ·rw [if_pos em, runC_at mn mx (by omega) (wk_lt k) hb, kw_wk (by omega)]
    unfold relQ nextC
    by_cases t8 : toS k b = 8
    ·rw [if_pos t8, if_pos t8]
    ·rw [if_neg t8, if_neg t8, if_pos hwk0]
     by_cases t0 : toS k b = 0
     ·rw [t0, if_pos rfl, if_pos rfl, if_pos em]
      rfl
     ·rw [if_neg t0, if_neg t0, if_pos em]
   ·rw [if_neg em]
    by_cases en : n + 1 ≤ top
    ·rw [if_pos en, runC_at mn mx en (wk_lt k) hb, kw_wk (by omega)]
     unfold relQ nextC
     by_cases t8 : toS k b = 8
     ·rw [if_pos t8, if_pos t8]
     ·rw [if_neg t8, if_neg t8, if_pos hwk0]
      by_cases t0 : toS k b = 0
      ·rw [t0, if_pos rfl, if_pos rfl, if_neg em, if_pos en]
       rfl
      ·rw [if_neg t0, if_neg t0, if_neg em, if_pos en]
    ·rw [if_neg en, runC_dead mn mx top b hb]
     unfold relQ
     rw [if_neg em, if_neg em]
     by_cases t8 : toS k b = 8
     ·rw [if_pos t8]
     ·rw [if_neg t8]
      by_cases t0 : toS k b = 0
      ·rw [if_pos t0, if_pos t0, if_neg (by omega)]
      ·rw [if_neg t0, if_neg t0, if_neg (by omega)]
def okCnt (mn : Nat) (mx : Int) (n k : Nat) : Bool := decide (k = 0) && decide (mn ≤ n) && (decide (mx = -1) || decide ((n : Int) ≤ mx))
theorem relC_acc (mn : Nat) (mx : Int) (top n k : Nat) (hk : k ≤ 8) (h : (mx = -1 ∧ top = mn) ∨ (mx = (top : Int) ∧ mn ≤ top)) : accOf (machC mn mx top) (relQ mx top n k) = okCnt mn mx n k := by
 have hdead : accOf (machC mn mx top) ((top + 1) * 8) = false := by unfold accOf; rw [machC_dead]
 have hat : ∀ count want, count ≤ top → want < 8 → accOf (machC mn mx top) (count * 8 + want) = (decide (want = 0) && decide (mn ≤ count)) := fun count want h1 h2 => by unfold accOf; rw [machC_at mn mx h1 h2]
 unfold relQ okCnt
 by_cases e8 : k = 8
 ·rw [if_pos e8, hdead, decide_eq_false (show ¬ k = 0 by omega)]
  rfl
 ·rw [if_neg e8]
  by_cases e0 : k = 0
  ·rw [if_pos e0, decide_eq_true e0, Bool.true_and]
   rcases h with ⟨h1, h2⟩ | ⟨h1, h2⟩
   ·rw [if_pos h1, decide_eq_true h1, Bool.true_or, Bool.and_true]
    have h3 := hat (min n top) 0 (by omega) (by omega)
    rw [Nat.add_zero] at h3
    rw [h3, decide_eq_true rfl, Bool.true_and]
    exact decide_eq_decide.2 (by omega)
   ·rw [if_neg (by omega), decide_eq_false (show ¬ mx = -1 by omega), Bool.false_or]
    by_cases hn : n ≤ top
    ·rw [if_pos hn]
     have h3 := hat n 0 hn (by omega)
     rw [Nat.add_zero] at h3
     rw [h3, decide_eq_true rfl, Bool.true_and, decide_eq_true (show (n : Int) ≤ mx by omega), Bool.and_true]
    ·rw [if_neg hn, hdead, decide_eq_false (show ¬ (n : Int) ≤ mx by omega), Bool.and_false]
  ·have hwk0 : wk k ≠ 0 := fun e => by
    have := kw_wk (k := k) (by omega)
    rw [e] at this
    exact e0 this.symm
   rw [if_neg e0, decide_eq_false e0]
   have h4 : ∀ c, c ≤ top → accOf (machC mn mx top) (c * 8 + wk k) = false := fun c hc => by rw [hat c _ hc (wk_lt k), decide_eq_false hwk0]; rfl
   split
   ·rw [h4 _ (by omega)]; rfl
   ·split
    ·rw [h4 _ (by omega)]; rfl
    ·rw [hdead]; rfl
theorem runC (mn : Nat) (mx : Int) (top : Nat) : ∀ (s : List UInt8) (n k : Nat), k ≤ 8 → runA (machC mn mx top) (relQ mx top n k) s = relQ mx top (cntRun (n, k) s).1 (cntRun (n, k) s).2 ∧ (cntRun (n, k) s).2 ≤ 8
 | [], n, k, hk => ⟨rfl, hk⟩
 | c :: t, n, k, hk => by
  rw [runA, relC_step mn mx top n k c.toNat hk c.toNat_lt, cntRun]
  exact runC mn mx top t _ _ (toS_le _ _)
theorem accC (mn : Nat) (mx : Int) (top : Nat) (h : (mx = -1 ∧ top = mn) ∨ (mx = (top : Int) ∧ mn ≤ top)) (s : List UInt8) : accOf (machC mn mx top) (runA (machC mn mx top) 0 s) = okCnt mn mx (cntRun (0, 0) s).1 (cntRun (0, 0) s).2 := by
 have h0 : relQ mx top 0 0 = 0 := by
  show (if mx = -1 then min 0 top * 8 else if 0 ≤ top then 0 * 8 else _) = 0
  split
  ·omega
  ·rw [if_pos (Nat.zero_le _)]
 obtain ⟨h1, h2⟩ := runC mn mx top s 0 0 (Nat.zero_le _)
 rw [h0] at h1
 rw [h1, relC_acc mn mx top _ _ h2 h]
end Go.Proofs.YtpkecepelcppiaaGreatDoor

namespace Go.Proofs.YtpkecepelcppiaaGreatDoor
open Go.RowKit
set_option maxRecDepth 100000
set_option maxHeartbeats 1000000

def foldF (q : Nat → Nat) : Nat → List ArcA
 | 0 => []
 | b + 1 => addArcA (foldF q b) b b (q b)
def qC (most n k b : Nat) : Nat := 9 * (if toS k b = 0 ∧ n < most then n + 1 else n) + toS k b
def stR (most lo : Nat) (hi : Int) (n k : Nat) : StA := ⟨okCnt lo hi n k, foldF (qC most n k) 256⟩
def refM (most lo : Nat) (hi : Int) : List StA := (List.range (most + 1)).flatMap fun n => (List.range 9).map (stR most lo hi n)
def preF (most lo : Nat) (hi : Int) (n k : Nat) : List StA := ((List.range n).flatMap fun n => (List.range 9).map (stR most lo hi n)) ++ (List.range k).map (stR most lo hi n)
theorem preF_k (most lo : Nat) (hi : Int) (n k : Nat) : preF most lo hi n (k + 1) = preF most lo hi n k ++ [stR most lo hi n k] := by
 unfold preF
 rw [List.range_succ (n := k), List.map_append, List.append_assoc]
 rfl
theorem preF_n (most lo : Nat) (hi : Int) (n : Nat) : preF most lo hi n 9 = preF most lo hi (n + 1) 0 := by
 unfold preF
 rw [List.range_succ (n := n), List.flatMap_append, List.range_zero, List.map_nil, List.append_nil]
 simp only [List.flatMap_cons, List.flatMap_nil, List.append_nil]
theorem preF_end (most lo : Nat) (hi : Int) : preF most lo hi (most + 1) 0 = refM most lo hi := by
 unfold preF refM
 rw [List.range_zero, List.map_nil, List.append_nil]
theorem preF_len (most lo : Nat) (hi : Int) (n k : Nat) : (preF most lo hi n k).length = n * 9 + k := by
 unfold preF
 rw [List.length_append, List.length_map, List.length_range]
 congr 1
 induction n with
 | zero => rfl
 | succ c ih => rw [List.range_succ (n := c), List.flatMap_append, List.length_append, ih]; simp; omega
theorem foldF_len (q : Nat → Nat) : ∀ b, (foldF q b).length ≤ b
 | 0 => Nat.le_refl _
 | b + 1 => by
  have h : ∀ (l : List ArcA) (lo hi nx : Nat), (addArcA l lo hi nx).length ≤ l.length + 1 := fun l lo hi nx => by
   rcases List.eq_nil_or_concat l with rfl | ⟨l', a, rfl⟩
   ·simp [addArcA]
   ·rw [List.concat_eq_append, arc_snoc]
    split <;> simp
  exact Nat.le_trans (h _ _ _ _) (Nat.succ_le_succ (foldF_len q b))
theorem foldF_ok {N : Nat} {q : Nat → Nat} (hq : ∀ b, q b < N) : ∀ b, okTo N 0 (foldF q b) b ∧ ∀ x, x < b → nextL (foldF q b) x = q x
 | 0 => ⟨rfl, fun x hx => absurd hx (Nat.not_lt_zero _)⟩
 | b + 1 => by
  obtain ⟨h1, h2⟩ := foldF_ok hq b
  obtain ⟨h3, h4, h5⟩ := arc_ok h1 (hq b)
  refine ⟨h3, fun x hx => ?_⟩
  by_cases hxb : x < b
  ·exact (h4 x hxb).trans (h2 x hxb)
  ·rw [show x = b by omega]
   exact h5
theorem qC_lt {most n : Nat} (hn : n ≤ most) (k b : Nat) : qC most n k b < (most + 1) * 9 := by
 have h := toS_le k b
 unfold qC
 split
 ·rename_i h2
  omega
 ·omega
theorem refM_len (most lo : Nat) (hi : Int) : (refM most lo hi).length = (most + 1) * 9 := by
 rw [← preF_end, preF_len]
 rfl
theorem refM_at {most lo : Nat} {hi : Int} {n k : Nat} (hn : n ≤ most) (hk : k < 9) : (refM most lo hi)[9 * n + k]? = some (stR most lo hi n k) := by
 have h : ∀ N, n < N → ((List.range N).flatMap fun n => (List.range 9).map (stR most lo hi n))[9 * n + k]? = some (stR most lo hi n k) := by
  intro N
  induction N with
  | zero => intro h; exact absurd h (Nat.not_lt_zero _)
  | succ N ih =>
   intro hlt
   have hl : ((List.range N).flatMap fun n => (List.range 9).map (stR most lo hi n)).length = N * 9 := by
    have := preF_len most lo hi N 0
    unfold preF at this
    rwa [List.range_zero, List.map_nil, List.append_nil] at this
   rw [List.range_succ (n := N), List.flatMap_append]
   by_cases he : n < N
   ·rw [List.getElem?_append_left (by rw [hl]; omega)]
    exact ih he
   ·have : n = N := by omega
    subst this
    rw [List.getElem?_append_right (by rw [hl]; omega), hl, show 9 * n + k - n * 9 = k by omega]
    simp only [List.flatMap_cons, List.flatMap_nil, List.append_nil]
    rw [List.getElem?_map, List.getElem?_range hk]
    rfl
 exact h (most + 1) (by omega)
theorem refM_val {most lo : Nat} {hi : Int} (hm : most ≤ 101) : valA (refM most lo hi) = true := by
 unfold valA
 rw [refM_len]
 simp only [Bool.and_eq_true, decide_eq_true_eq]
 refine ⟨⟨by omega, by omega⟩, ?_⟩
 rw [List.all_eq_true]
 intro s hs
 obtain ⟨j, hj⟩ := List.mem_iff_getElem?.1 hs
 have hjl := (List.getElem?_eq_some_iff.1 hj).1
 rw [refM_len] at hjl
 have h1 := refM_at (most := most) (lo := lo) (hi := hi) (n := j / 9) (k := j % 9) (by omega) (by omega)
 rw [show 9 * (j / 9) + j % 9 = j by omega, hj] at h1
 rw [Option.some.inj h1]
 exact okTo_ok (foldF_ok (fun b => qC_lt (by omega) _ b) 256).1
def refQ (most n k : Nat) : Nat := 9 * min n most + k
theorem refQ_step {most lo : Nat} {hi : Int} {n k b : Nat} (hk : k ≤ 8) (hb : b < 256) : nextL (arcsOf (refM most lo hi) (refQ most n k)) b = refQ most (cntStep (n, k) b).1 (cntStep (n, k) b).2 := by
 unfold arcsOf refQ
 rw [refM_at (Nat.min_le_right _ _) (by omega)]
 dsimp only [stR]
 rw [(foldF_ok (N := (most + 1) * 9) (fun b => qC_lt (Nat.min_le_right n most) k b) 256).2 b hb]
 unfold qC cntStep
 dsimp only
 by_cases h0 : toS k b = 0
 ·rw [h0]
  simp only [true_and, if_true]
  split <;> omega
 ·rw [if_neg (fun h => h0 h.1), if_neg h0]
theorem refQ_acc {most lo : Nat} {hi : Int} (h : (hi = -1 ∧ most = lo) ∨ (hi + 1 = (most : Int) ∧ (lo : Int) ≤ hi)) (n k : Nat) (hk : k ≤ 8) : accOf (refM most lo hi) (refQ most n k) = okCnt lo hi n k := by
 unfold accOf refQ
 rw [refM_at (Nat.min_le_right _ _) (by omega)]
 dsimp only [stR]
 unfold okCnt
 congr 1
 ·congr 1
  exact decide_eq_decide.2 (by omega)
 ·rcases h with ⟨h1, h2⟩ | ⟨h1, h2⟩
  ·rw [decide_eq_true h1, Bool.true_or, Bool.true_or]
  ·congr 1
   exact decide_eq_decide.2 (by omega)
theorem cnt_same {mn top most : Nat} {mx : Int} (ht : top ≤ 100) (hm : most ≤ 101) (h1 : (mx = -1 ∧ top = mn ∧ most = mn) ∨ (mx = (top : Int) ∧ mn ≤ top ∧ most = top + 1)) : leastA 1000 (refM most mn mx) = leastA 1000 (machC mn mx top) := by
 have hq : ∀ n k, relQ mx top n k < (top + 1) * 8 + 1 := fun n k => by
  have := wk_lt k
  unfold relQ
  repeat (first | omega | split)
 refine (least_same (m1 := machC mn mx top) (m2 := refM most mn mx) (machC_val mn mx top (by omega)) (refM_val hm) (by rw [machC_len]; omega) (by rw [refM_len]; omega) (E := fun q p => ∃ n k, k ≤ 8 ∧ q = relQ mx top n k ∧ p = refQ most n k) ⟨0, 0, Nat.zero_le _, ?_, ?_⟩ (fun q p ⟨n, k, hk, e1, e2⟩ => ?_) 1000 (by rw [machC_len]; omega) (by rw [refM_len]; omega)).symm
 ·show 0 = if mx = -1 then min 0 top * 8 else if 0 ≤ top then 0 * 8 else _
  split
  ·omega
  ·rw [if_pos (Nat.zero_le _)]
 ·show 0 = 9 * min 0 most + 0
  omega
 ·subst e1
  subst e2
  have hl : refQ most n k < (refM most mn mx).length := by rw [refM_len]; unfold refQ; omega
  refine ⟨by rw [machC_len]; exact hq n k, hl, ?_, fun x hx => ⟨(cntStep (n, k) x).1, (cntStep (n, k) x).2, toS_le _ _, ?_, ?_⟩⟩
  ·rw [relC_acc mn mx top n k hk (by omega), refQ_acc (by omega) n k hk]
  ·unfold gA
   rw [← next_step _ 0 x (val_arcs (machC_val mn mx top (by omega)) (by rw [machC_len]; exact hq n k)) (Nat.zero_le _), relC_step mn mx top n k x hk hx]
  ·unfold gA
   rw [← next_step _ 0 x (val_arcs (refM_val hm) hl) (Nat.zero_le _), refQ_step hk hx]
/-! More fuel changes nothing. -/
theorem loopA_more {nx : List (List Nat)} : ∀ (f : Nat) (cl : List Nat) (known : Nat) (r : List Nat), loopA nx f cl known = some r → loopA nx (f + 1) cl known = some r
 | 0, _, _, _, h => by rw [loopA] at h; cases h
 | f + 1, cl, known, r, h => by
  rw [loopA] at h ⊢
  split
  ·rename_i h1
   rwa [if_pos h1] at h
  ·rename_i h1
   rw [if_neg h1] at h
   exact loopA_more f _ _ _ h
theorem numA_more {m : List StA} {bytes cl : List Nat} {nx : List (List Nat)} : ∀ (f i : Nat) (order : List Nat) (out r : List StA), numA m bytes cl nx f i order out = some r → numA m bytes cl nx (f + 1) i order out = some r
 | 0, _, _, _, _, h => by rw [numA] at h; cases h
 | f + 1, i, order, out, r, h => by
  rw [numA] at h ⊢
  cases ho : order[i]? with
  | none => rw [ho] at h; exact h
  | some q => rw [ho] at h; exact numA_more f _ _ _ _ h
theorem leastA_more {m : List StA} (f : Nat) (o : List StA) (h : leastA f m = some o) : leastA (f + 1) m = some o := by
 unfold leastA at h ⊢
 dsimp only at h ⊢
 cases hc : loopA (m.map fun s => (startsA m).map (stepL s.arcs)) f (m.map fun s => if s.acc then 1 else 0) 0 with
 | none => rw [hc] at h; cases h
 | some cl =>
  rw [hc] at h
  rw [loopA_more f _ _ _ hc]
  exact numA_more f _ _ _ _ h
theorem leastA_plus {m : List StA} {o : List StA} (f : Nat) (h : leastA f m = some o) : ∀ d, leastA (f + d) m = some o
 | 0 => h
 | d + 1 => leastA_more _ _ (leastA_plus f h d)
end Go.Proofs.YtpkecepelcppiaaGreatDoor
