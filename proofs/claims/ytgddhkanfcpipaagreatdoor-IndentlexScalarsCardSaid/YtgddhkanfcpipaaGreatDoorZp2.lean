/- Base64 digit by digit and bit by bit: plain. Conditions: none. -/
import Derived.Test.YtgddhkanfcpipaaGreatDoorZk2
namespace Go.Proofs.YtgddhkanfcpipaaGreatDoor
set_option maxRecDepth 100000
set_option maxHeartbeats 1000000

/-- The position of a byte, from k on; -1 if it is not there. -/
def idxL (c : UInt8) : Nat → List UInt8 → Int
  | _, [] => -1
  | k, b :: t => if b.toNat = c.toNat then (k : Int) else idxL c (k + 1) t
def lets : List UInt8 := [65, 66, 67, 68, 69, 70, 71, 72, 73, 74, 75, 76, 77, 78, 79, 80, 81, 82, 83, 84, 85, 86, 87, 88, 89, 90, 97, 98, 99, 100, 101, 102, 103, 104, 105, 106, 107, 108, 109, 110, 111, 112, 113, 114, 115, 116, 117, 118, 119, 120, 121, 122, 48, 49, 50, 51, 52, 53, 54, 55, 56, 57, 43, 47]
def b64 (c : UInt8) : Int := idxL c 0 lets
def dg (c : UInt8) : Nat := (b64 c).toNat
def lt64 (n : Nat) : UInt8 := lets.getD n 0
theorem b64_all0 : ∀ n : Fin 256, (b64 (UInt8.ofNat n.val) = -1 ∨ (0 ≤ b64 (UInt8.ofNat n.val) ∧ b64 (UInt8.ofNat n.val) < 64 ∧ lt64 (dg (UInt8.ofNat n.val)) = UInt8.ofNat n.val)) := by decide +kernel
theorem b64_all (c : UInt8) : b64 c = -1 ∨ (0 ≤ b64 c ∧ b64 c < 64 ∧ lt64 (dg c) = c) := by
  have h := b64_all0 ⟨c.toNat, c.toNat_lt⟩
  simpa using h
theorem lt64_all : ∀ n : Fin 64, b64 (lt64 n.val) = (n.val : Int) := by decide +kernel
theorem lt64_dg (n : Nat) (h : n < 64) : dg (lt64 n) = n ∧ 0 ≤ b64 (lt64 n) := by
  have := lt64_all ⟨n, h⟩
  unfold dg
  simp only at this
  rw [this]
  exact ⟨rfl, Int.natCast_nonneg _⟩
theorem dg_lt (c : UInt8) : dg c < 64 := by
  unfold dg
  rcases b64_all c with h | h
  · rw [h]; decide
  · omega
/-- How many digits stand ahead. -/
def runB : List UInt8 → Nat
  | [] => 0
  | c :: t => if 0 ≤ b64 c then runB t + 1 else 0
theorem runB_le : ∀ l : List UInt8, runB l ≤ l.length
  | [] => Nat.le_refl _
  | c :: t => by
    have := runB_le t
    rw [runB, List.length_cons]
    split <;> omega
/-- The whole bytes of digits. -/
def dcG : List Nat → List UInt8
  | a :: b :: c :: d :: t => UInt8.ofNat (a * 4 + b / 16) :: UInt8.ofNat (b % 16 * 16 + c / 4) :: UInt8.ofNat (c % 4 * 64 + d) :: dcG t
  | [a, b, c] => [UInt8.ofNat (a * 4 + b / 16), UInt8.ofNat (b % 16 * 16 + c / 4)]
  | [a, b] => [UInt8.ofNat (a * 4 + b / 16)]
  | [_] => []
  | [] => []
/-- The bits left over, as a number. -/
def lefG : List Nat → Nat
  | _ :: _ :: _ :: _ :: t => lefG t
  | [_, _, c] => c % 4
  | [_, b] => b % 16
  | [a] => a
  | [] => 0
/-- The digits of bytes. -/
def encD : List UInt8 → List Nat
  | x :: y :: z :: t => x.toNat / 4 :: (x.toNat % 4 * 16 + y.toNat / 16) :: (y.toNat % 16 * 4 + z.toNat / 64) :: z.toNat % 64 :: encD t
  | [x, y] => [x.toNat / 4, x.toNat % 4 * 16 + y.toNat / 16, y.toNat % 16 * 4]
  | [x] => [x.toNat / 4, x.toNat % 4 * 16]
  | [] => []
def padN (n : Nat) : Nat := (3 - n % 3) % 3
def encP (b : List UInt8) : List UInt8 := (encD b).map lt64 ++ List.replicate (padN b.length) 61
/-- The bytes of a base64 text, with its equals signs. -/
def okB (l : List UInt8) : Prop := runB l % 4 ≠ 1 ∧ lefG ((l.take (runB l)).map dg) = 0 ∧ l.drop (runB l) = List.replicate ((4 - runB l % 4) % 4) 61
def bytB (l : List UInt8) : List UInt8 := dcG ((l.take (runB l)).map dg)
theorem ofn (n : Nat) (h : n < 256) : (UInt8.ofNat n).toNat = n := by
  simp only [UInt8.toNat_ofNat']
  omega
/-- Induction by groups of four. -/
theorem four_ind {P : List Nat → Prop} (h0 : P []) (h1 : ∀ a, P [a]) (h2 : ∀ a b, P [a, b]) (h3 : ∀ a b c, P [a, b, c]) (h4 : ∀ a b c d t, P t → P (a :: b :: c :: d :: t)) : ∀ l, P l
  | [] => h0
  | [a] => h1 a
  | [a, b] => h2 a b
  | [a, b, c] => h3 a b c
  | a :: b :: c :: d :: t => h4 a b c d t (four_ind h0 h1 h2 h3 h4 t)
theorem dec_len64 (l : List Nat) : (dcG l).length = l.length * 6 / 8 := by
  refine four_ind (P := fun l => (dcG l).length = l.length * 6 / 8) rfl (fun _ => by simp [dcG]) (fun _ _ => by simp [dcG]) (fun _ _ _ => by simp [dcG]) (fun a b c d t ih => ?_) l
  show (dcG t).length + 1 + 1 + 1 = (t.length + 1 + 1 + 1 + 1) * 6 / 8
  rw [ih]
  omega
theorem enc_len64 (l : List Nat) : (encD (dcG l)).length = if l.length % 4 = 1 then l.length - 1 else l.length := by
  refine four_ind (P := fun l => (encD (dcG l)).length = if l.length % 4 = 1 then l.length - 1 else l.length) rfl (fun _ => rfl) (fun _ _ => rfl) (fun _ _ _ => rfl) (fun a b c d t ih => ?_) l
  show (encD (dcG t)).length + 1 + 1 + 1 + 1 = if (t.length + 1 + 1 + 1 + 1) % 4 = 1 then (t.length + 1 + 1 + 1 + 1) - 1 else (t.length + 1 + 1 + 1 + 1)
  rw [ih]
  by_cases h : t.length % 4 = 1
  · rw [if_pos h, if_pos (by omega)]; omega
  · rw [if_neg h, if_neg (by omega)]
theorem enc_dec (l : List Nat) : (∀ n ∈ l, n < 64) → l.length % 4 ≠ 1 → (encD (dcG l) = l ↔ lefG l = 0) := by
  refine four_ind (P := fun l => (∀ n ∈ l, n < 64) → l.length % 4 ≠ 1 → (encD (dcG l) = l ↔ lefG l = 0)) (fun _ _ => ⟨fun _ => rfl, fun _ => rfl⟩) (fun a _ h => absurd rfl h) (fun a b h _ => ?_) (fun a b c h _ => ?_) (fun a b c d t ih h hl => ?_) l
  · have ha := h a (by simp)
    have hb := h b (by simp)
    show [(UInt8.ofNat (a * 4 + b / 16)).toNat / 4, (UInt8.ofNat (a * 4 + b / 16)).toNat % 4 * 16] = [a, b] ↔ b % 16 = 0
    rw [ofn _ (by omega)]
    simp only [List.cons.injEq, and_true]
    omega
  · have ha := h a (by simp)
    have hb := h b (by simp)
    have hc := h c (by simp)
    show [(UInt8.ofNat (a * 4 + b / 16)).toNat / 4, (UInt8.ofNat (a * 4 + b / 16)).toNat % 4 * 16 + (UInt8.ofNat (b % 16 * 16 + c / 4)).toNat / 16, (UInt8.ofNat (b % 16 * 16 + c / 4)).toNat % 16 * 4] = [a, b, c] ↔ c % 4 = 0
    rw [ofn _ (by omega), ofn _ (by omega)]
    simp only [List.cons.injEq, and_true]
    omega
  · have ha := h a (by simp)
    have hb := h b (by simp)
    have hc := h c (by simp)
    have hd := h d (by simp)
    have ih := ih (fun n hn => h n (by simp [hn])) (by simp only [List.length_cons] at hl; omega)
    show (UInt8.ofNat (a * 4 + b / 16)).toNat / 4 :: ((UInt8.ofNat (a * 4 + b / 16)).toNat % 4 * 16 + (UInt8.ofNat (b % 16 * 16 + c / 4)).toNat / 16) :: ((UInt8.ofNat (b % 16 * 16 + c / 4)).toNat % 16 * 4 + (UInt8.ofNat (c % 4 * 64 + d)).toNat / 64) :: (UInt8.ofNat (c % 4 * 64 + d)).toNat % 64 :: encD (dcG t) = a :: b :: c :: d :: t ↔ lefG t = 0
    rw [ofn _ (by omega), ofn _ (by omega), ofn _ (by omega), ← ih]
    simp only [List.cons.injEq]
    constructor
    · exact fun h => h.2.2.2.2
    · exact fun h => ⟨by omega, by omega, by omega, by omega, h⟩
theorem three_ind {P : List UInt8 → Prop} (h0 : P []) (h1 : ∀ a, P [a]) (h2 : ∀ a b, P [a, b]) (h3 : ∀ a b c t, P t → P (a :: b :: c :: t)) : ∀ l, P l
  | [] => h0
  | [a] => h1 a
  | [a, b] => h2 a b
  | a :: b :: c :: t => h3 a b c t (three_ind h0 h1 h2 h3 t)
theorem encD_lt (b : List UInt8) : ∀ n ∈ encD b, n < 64 := by
  refine three_ind (P := fun b => ∀ n ∈ encD b, n < 64) (fun n h => by cases h) (fun x n h => ?_) (fun x y n h => ?_) (fun x y z t ih n h => ?_) b
  · have hx := x.toNat_lt
    simp only [encD, List.mem_cons, List.not_mem_nil, or_false] at h
    omega
  · have hx := x.toNat_lt
    have hy := y.toNat_lt
    simp only [encD, List.mem_cons, List.not_mem_nil, or_false] at h
    omega
  · have hx := x.toNat_lt
    have hy := y.toNat_lt
    have hz := z.toNat_lt
    simp only [encD, List.mem_cons] at h
    rcases h with h | h | h | h | h
    · omega
    · omega
    · omega
    · omega
    · exact ih n h
theorem runB_map : ∀ (ns : List Nat) (t : List UInt8), (∀ n ∈ ns, n < 64) → runB t = 0 → runB (ns.map lt64 ++ t) = ns.length
  | [], t, _, h0 => h0
  | n :: ns, t, h, h0 => by
    rw [List.map_cons, List.cons_append, runB, if_pos (lt64_dg n (h n (List.mem_cons_self ..))).2, runB_map ns t (fun m hm => h m (List.mem_cons_of_mem _ hm)) h0, List.length_cons]
theorem runB_pad : ∀ n : Nat, runB (List.replicate n 61) = 0
  | 0 => rfl
  | n + 1 => by
    rw [List.replicate_succ, runB, if_neg (by decide)]
theorem map_back : ∀ ns : List Nat, (∀ n ∈ ns, n < 64) → (ns.map lt64).map dg = ns
  | [], _ => rfl
  | n :: ns, h => by
    rw [List.map_cons, List.map_cons, (lt64_dg n (h n (List.mem_cons_self ..))).1, map_back ns (fun m hm => h m (List.mem_cons_of_mem _ hm))]
theorem run_back : ∀ l : List UInt8, ((l.take (runB l)).map dg).map lt64 = l.take (runB l)
  | [] => rfl
  | c :: t => by
    by_cases h : 0 ≤ b64 c
    · have e : runB (c :: t) = runB t + 1 := if_pos h
      rw [e, List.take_succ_cons, List.map_cons, List.map_cons, run_back t]
      rcases b64_all c with h1 | ⟨-, -, h3⟩
      · omega
      · rw [h3]
    · have e : runB (c :: t) = 0 := if_neg h
      rw [e]
      rfl
theorem pad_same (k : Nat) (h : k % 4 ≠ 1) : padN (k * 6 / 8) = (4 - k % 4) % 4 := by
  unfold padN
  rcases (by omega : k % 4 = 0 ∨ k % 4 = 2 ∨ k % 4 = 3) with h | h | h
  · rw [h, show k * 6 / 8 % 3 = 0 by omega]
  · rw [h, show k * 6 / 8 % 3 = 1 by omega]
  · rw [h, show k * 6 / 8 % 3 = 2 by omega]
theorem encP_parts (b : List UInt8) : (encP b).take (encD b).length = (encD b).map lt64 ∧ (encP b).drop (encD b).length = List.replicate (padN b.length) 61 := by
  have hl : ((encD b).map lt64).length = (encD b).length := List.length_map ..
  unfold encP
  rw [← hl]
  exact ⟨List.take_left, List.drop_left⟩
/-- The reference's way to ask for a text: the bytes' own text is the same again. -/
theorem enc_iff (l : List UInt8) : encP (bytB l) = l ↔ okB l := by
  have hk := runB_le l
  have hlen : ((l.take (runB l)).map dg).length = runB l := by rw [List.length_map, List.length_take, Nat.min_eq_left hk]
  have hlt : ∀ n ∈ (l.take (runB l)).map dg, n < 64 := by
    intro n hn
    obtain ⟨c, -, rfl⟩ := List.mem_map.1 hn
    exact dg_lt c
  have hbl : (bytB l).length = runB l * 6 / 8 := by unfold bytB; rw [dec_len64, hlen]
  constructor
  · intro h
    have hr : runB (encP (bytB l)) = (encD (bytB l)).length := runB_map _ _ (encD_lt _) (runB_pad _)
    rw [h] at hr
    have hel : (encD (bytB l)).length = if runB l % 4 = 1 then runB l - 1 else runB l := by
      have := enc_len64 ((l.take (runB l)).map dg)
      rw [hlen] at this
      exact this
    have h1 : runB l % 4 ≠ 1 := by
      intro h1
      rw [if_pos h1] at hel
      omega
    obtain ⟨htk, hdr⟩ := encP_parts (bytB l)
    rw [h, ← hr] at htk hdr
    have hds : encD (bytB l) = (l.take (runB l)).map dg := by rw [htk, map_back _ (encD_lt _)]
    refine ⟨h1, (enc_dec _ hlt (by rw [hlen]; exact h1)).1 hds, ?_⟩
    rw [hdr, hbl, pad_same _ h1]
  · rintro ⟨h1, h2, h3⟩
    have hds : encD (bytB l) = (l.take (runB l)).map dg := (enc_dec _ hlt (by rw [hlen]; exact h1)).2 h2
    unfold encP
    rw [hds, run_back, hbl]
    rw [pad_same _ h1, ← h3, List.take_append_drop]
/-- A text's bytes, written again: told whole. -/
theorem back_enc (b : List UInt8) : okB (encP b) ∧ bytB (encP b) = b := by
  have hr : runB (encP b) = (encD b).length := runB_map _ _ (encD_lt _) (runB_pad _)
  have htk : (encP b).take (runB (encP b)) = (encD b).map lt64 := by
    rw [hr]
    exact (encP_parts b).1
  have hb : bytB (encP b) = b := by
    unfold bytB
    rw [htk, map_back _ (encD_lt _)]
    refine three_ind (P := fun b => dcG (encD b) = b) rfl (fun x => ?_) (fun x y => ?_) (fun x y z t ih => ?_) b
    · have hx := x.toNat_lt
      show [UInt8.ofNat (x.toNat / 4 * 4 + (x.toNat % 4 * 16) / 16)] = [x]
      rw [show x.toNat / 4 * 4 + (x.toNat % 4 * 16) / 16 = x.toNat by omega, UInt8.ofNat_toNat]
    · have hx := x.toNat_lt
      have hy := y.toNat_lt
      show [UInt8.ofNat (x.toNat / 4 * 4 + (x.toNat % 4 * 16 + y.toNat / 16) / 16), UInt8.ofNat ((x.toNat % 4 * 16 + y.toNat / 16) % 16 * 16 + (y.toNat % 16 * 4) / 4)] = [x, y]
      rw [show x.toNat / 4 * 4 + (x.toNat % 4 * 16 + y.toNat / 16) / 16 = x.toNat by omega, show (x.toNat % 4 * 16 + y.toNat / 16) % 16 * 16 + (y.toNat % 16 * 4) / 4 = y.toNat by omega, UInt8.ofNat_toNat, UInt8.ofNat_toNat]
    · have hx := x.toNat_lt
      have hy := y.toNat_lt
      have hz := z.toNat_lt
      show UInt8.ofNat (x.toNat / 4 * 4 + (x.toNat % 4 * 16 + y.toNat / 16) / 16) :: UInt8.ofNat ((x.toNat % 4 * 16 + y.toNat / 16) % 16 * 16 + (y.toNat % 16 * 4 + z.toNat / 64) / 4) :: UInt8.ofNat ((y.toNat % 16 * 4 + z.toNat / 64) % 4 * 64 + z.toNat % 64) :: dcG (encD t) = x :: y :: z :: t
      rw [show x.toNat / 4 * 4 + (x.toNat % 4 * 16 + y.toNat / 16) / 16 = x.toNat by omega, show (x.toNat % 4 * 16 + y.toNat / 16) % 16 * 16 + (y.toNat % 16 * 4 + z.toNat / 64) / 4 = y.toNat by omega, show (y.toNat % 16 * 4 + z.toNat / 64) % 4 * 64 + z.toNat % 64 = z.toNat by omega, UInt8.ofNat_toNat, UInt8.ofNat_toNat, UInt8.ofNat_toNat, ih]
  exact ⟨(enc_iff _).1 (by rw [hb]), hb⟩
end Go.Proofs.YtgddhkanfcpipaaGreatDoor

namespace Go.Proofs.YtgddhkanfcpipaaGreatDoor
set_option maxRecDepth 100000
set_option maxHeartbeats 1000000

/-! A digit more. -/
theorem dec_snoc (l : List Nat) (d : Nat) : (l.length % 4 = 0 → dcG (l ++ [d]) = dcG l ∧ lefG (l ++ [d]) = d ∧ lefG l = 0) ∧
    (l.length % 4 = 1 → dcG (l ++ [d]) = dcG l ++ [UInt8.ofNat (lefG l * 4 + d / 16)] ∧ lefG (l ++ [d]) = d % 16) ∧
    (l.length % 4 = 2 → dcG (l ++ [d]) = dcG l ++ [UInt8.ofNat (lefG l * 16 + d / 4)] ∧ lefG (l ++ [d]) = d % 4) ∧
    (l.length % 4 = 3 → dcG (l ++ [d]) = dcG l ++ [UInt8.ofNat (lefG l * 64 + d)] ∧ lefG (l ++ [d]) = 0) := by
  refine four_ind (P := fun l => (l.length % 4 = 0 → dcG (l ++ [d]) = dcG l ∧ lefG (l ++ [d]) = d ∧ lefG l = 0) ∧
    (l.length % 4 = 1 → dcG (l ++ [d]) = dcG l ++ [UInt8.ofNat (lefG l * 4 + d / 16)] ∧ lefG (l ++ [d]) = d % 16) ∧
    (l.length % 4 = 2 → dcG (l ++ [d]) = dcG l ++ [UInt8.ofNat (lefG l * 16 + d / 4)] ∧ lefG (l ++ [d]) = d % 4) ∧
    (l.length % 4 = 3 → dcG (l ++ [d]) = dcG l ++ [UInt8.ofNat (lefG l * 64 + d)] ∧ lefG (l ++ [d]) = 0)) ?_ ?_ ?_ ?_ ?_ l
  · exact ⟨fun _ => ⟨rfl, rfl, rfl⟩, fun h => (by cases h), fun h => (by cases h), fun h => (by cases h)⟩
  · exact fun a => ⟨fun h => (by cases h), fun _ => ⟨rfl, rfl⟩, fun h => (by cases h), fun h => (by cases h)⟩
  · exact fun a b => ⟨fun h => (by cases h), fun h => (by cases h), fun _ => ⟨rfl, rfl⟩, fun h => (by cases h)⟩
  · exact fun a b c => ⟨fun h => (by cases h), fun h => (by cases h), fun h => (by cases h), fun _ => ⟨rfl, rfl⟩⟩
  · intro a b c e t ih
    obtain ⟨i0, i1, i2, i3⟩ := ih
    have hl : (a :: b :: c :: e :: t).length % 4 = t.length % 4 := by simp only [List.length_cons]; omega
    rw [hl]
    have hd : ∀ u, dcG (a :: b :: c :: e :: u) = UInt8.ofNat (a * 4 + b / 16) :: UInt8.ofNat (b % 16 * 16 + c / 4) :: UInt8.ofNat (c % 4 * 64 + e) :: dcG u := fun _ => rfl
    have hlf : ∀ u, lefG (a :: b :: c :: e :: u) = lefG u := fun _ => rfl
    simp only [List.cons_append, hd, hlf]
    refine ⟨fun h => ?_, fun h => ?_, fun h => ?_, fun h => ?_⟩
    · obtain ⟨h1, h2, h3⟩ := i0 h
      exact ⟨by rw [h1], h2, h3⟩
    · obtain ⟨h1, h2⟩ := i1 h
      exact ⟨by rw [h1], h2⟩
    · obtain ⟨h1, h2⟩ := i2 h
      exact ⟨by rw [h1], h2⟩
    · obtain ⟨h1, h2⟩ := i3 h
      exact ⟨by rw [h1], h2⟩
theorem lef_lt (l : List Nat) : (∀ n ∈ l, n < 64) → lefG l < 64 ∧ (l.length % 4 = 0 → lefG l = 0) ∧ (l.length % 4 = 2 → lefG l < 16) ∧ (l.length % 4 = 3 → lefG l < 4) := by
  refine four_ind (P := fun l => (∀ n ∈ l, n < 64) → lefG l < 64 ∧ (l.length % 4 = 0 → lefG l = 0) ∧ (l.length % 4 = 2 → lefG l < 16) ∧ (l.length % 4 = 3 → lefG l < 4)) ?_ ?_ ?_ ?_ ?_ l
  · exact fun _ => ⟨by decide, fun _ => rfl, fun h => (by cases h), fun h => (by cases h)⟩
  · exact fun a h => ⟨h a (by simp), fun h => (by cases h), fun h => (by cases h), fun h => (by cases h)⟩
  · intro a b h
    show b % 16 < 64 ∧ _ ∧ (_ → b % 16 < 16) ∧ _
    exact ⟨by omega, fun h => (by cases h), fun _ => by omega, fun h => (by cases h)⟩
  · intro a b c h
    show c % 4 < 64 ∧ _ ∧ _ ∧ (_ → c % 4 < 4)
    exact ⟨by omega, fun h => (by cases h), fun h => (by cases h), fun _ => by omega⟩
  · intro a b c e t ih h
    have := ih (fun n hn => h n (by simp [hn]))
    have hl : (a :: b :: c :: e :: t).length % 4 = t.length % 4 := by simp only [List.length_cons]; omega
    rw [hl]
    exact this
/-! Bit by bit. -/
def bitD (ds : List Nat) (i : Nat) : Nat := ds.getD (i / 6) 0 / 2 ^ (5 - i % 6) % 2
def parD (ds : List Nat) (j : Nat) : Nat → Nat
  | 0 => 0
  | m + 1 => parD ds j m + bitD ds (8 * j + m) * 2 ^ (7 - m)
theorem bitD_lt (ds : List Nat) (i : Nat) : bitD ds i < 2 := Nat.mod_lt _ (by decide)
theorem bitD_shift (a b c d : Nat) (t : List Nat) (i : Nat) : bitD (a :: b :: c :: d :: t) (24 + i) = bitD t i := by
  unfold bitD
  rw [show (24 + i) / 6 = i / 6 + 1 + 1 + 1 + 1 by omega, show (24 + i) % 6 = i % 6 by omega, List.getD_cons_succ, List.getD_cons_succ, List.getD_cons_succ, List.getD_cons_succ]
theorem parD_shift (a b c d : Nat) (t : List Nat) (j : Nat) : ∀ m, parD (a :: b :: c :: d :: t) (j + 3) m = parD t j m
  | 0 => rfl
  | m + 1 => by rw [parD, parD, parD_shift a b c d t j m, show 8 * (j + 3) + m = 24 + (8 * j + m) by omega, bitD_shift]
theorem six_bits : ∀ n : Fin 64, n.val = n.val / 32 % 2 * 32 + n.val / 16 % 2 * 16 + n.val / 8 % 2 * 8 + n.val / 4 % 2 * 4 + n.val / 2 % 2 * 2 + n.val % 2 := by decide +kernel
theorem par_dec (l : List Nat) : (∀ n ∈ l, n < 64) → ∀ j, j < (dcG l).length → (dcG l)[j]? = some (UInt8.ofNat (parD l j 8)) := by
  refine four_ind (P := fun l => (∀ n ∈ l, n < 64) → ∀ j, j < (dcG l).length → (dcG l)[j]? = some (UInt8.ofNat (parD l j 8))) ?_ ?_ ?_ ?_ ?_ l
  · exact fun _ j hj => absurd hj (Nat.not_lt_zero _)
  · exact fun a _ j hj => absurd hj (Nat.not_lt_zero _)
  · intro a b h j hj
    obtain rfl : j = 0 := Nat.lt_one_iff.1 hj
    have ha := six_bits ⟨a, h a (by simp)⟩
    have hb := h b (by simp)
    have hb' := six_bits ⟨b, hb⟩
    simp only at ha hb'
    have e : parD [a, b] 0 8 = a * 4 + b / 16 := by
      show 0 + a / 32 % 2 * 128 + a / 16 % 2 * 64 + a / 8 % 2 * 32 + a / 4 % 2 * 16 + a / 2 % 2 * 8 + a / 1 % 2 * 4 + b / 32 % 2 * 2 + b / 16 % 2 * 1 = a * 4 + b / 16
      omega
    rw [e]
    rfl
  · intro a b c h j hj
    have ha := six_bits ⟨a, h a (by simp)⟩
    have hb := h b (by simp)
    have hb' := six_bits ⟨b, hb⟩
    have hc := h c (by simp)
    have hc' := six_bits ⟨c, hc⟩
    simp only at ha hb' hc'
    have hj2 : j = 0 ∨ j = 1 := by have : j < 2 := hj; omega
    rcases hj2 with rfl | rfl
    · have e : parD [a, b, c] 0 8 = a * 4 + b / 16 := by
        show 0 + a / 32 % 2 * 128 + a / 16 % 2 * 64 + a / 8 % 2 * 32 + a / 4 % 2 * 16 + a / 2 % 2 * 8 + a / 1 % 2 * 4 + b / 32 % 2 * 2 + b / 16 % 2 * 1 = a * 4 + b / 16
        omega
      rw [e]
      rfl
    · have e : parD [a, b, c] 1 8 = b % 16 * 16 + c / 4 := by
        show 0 + b / 8 % 2 * 128 + b / 4 % 2 * 64 + b / 2 % 2 * 32 + b / 1 % 2 * 16 + c / 32 % 2 * 8 + c / 16 % 2 * 4 + c / 8 % 2 * 2 + c / 4 % 2 * 1 = b % 16 * 16 + c / 4
        omega
      rw [e]
      rfl
  · intro a b c d t ih h j hj
    have ha := six_bits ⟨a, h a (by simp)⟩
    have hb := h b (by simp)
    have hb' := six_bits ⟨b, hb⟩
    have hc := h c (by simp)
    have hc' := six_bits ⟨c, hc⟩
    have hd := h d (by simp)
    have hd' := six_bits ⟨d, hd⟩
    simp only at ha hb' hc' hd'
    match j with
    | 0 =>
      have e : parD (a :: b :: c :: d :: t) 0 8 = a * 4 + b / 16 := by
        show 0 + a / 32 % 2 * 128 + a / 16 % 2 * 64 + a / 8 % 2 * 32 + a / 4 % 2 * 16 + a / 2 % 2 * 8 + a / 1 % 2 * 4 + b / 32 % 2 * 2 + b / 16 % 2 * 1 = a * 4 + b / 16
        omega
      rw [e]
      rfl
    | 1 =>
      have e : parD (a :: b :: c :: d :: t) 1 8 = b % 16 * 16 + c / 4 := by
        show 0 + b / 8 % 2 * 128 + b / 4 % 2 * 64 + b / 2 % 2 * 32 + b / 1 % 2 * 16 + c / 32 % 2 * 8 + c / 16 % 2 * 4 + c / 8 % 2 * 2 + c / 4 % 2 * 1 = b % 16 * 16 + c / 4
        omega
      rw [e]
      rfl
    | 2 =>
      have e : parD (a :: b :: c :: d :: t) 2 8 = c % 4 * 64 + d := by
        show 0 + c / 2 % 2 * 128 + c / 1 % 2 * 64 + d / 32 % 2 * 32 + d / 16 % 2 * 16 + d / 8 % 2 * 8 + d / 4 % 2 * 4 + d / 2 % 2 * 2 + d / 1 % 2 * 1 = c % 4 * 64 + d
        omega
      rw [e]
      rfl
    | j + 3 =>
      rw [parD_shift]
      exact ih (fun n hn => h n (by simp [hn])) j (by simpa [dcG] using hj)
theorem parD_lt (ds : List Nat) (j : Nat) : ∀ m, m ≤ 8 → ∃ q, parD ds j m = q * 2 ^ (8 - m) ∧ q < 2 ^ m
  | 0, _ => ⟨0, by simp [parD], by decide⟩
  | m + 1, h => by
    obtain ⟨q, h1, h2⟩ := parD_lt ds j m (by omega)
    have hb := bitD_lt ds (8 * j + m)
    refine ⟨2 * q + bitD ds (8 * j + m), ?_, ?_⟩
    · rw [parD, h1, show 8 - m = (8 - (m + 1)) + 1 by omega, show 7 - m = 8 - (m + 1) by omega, Nat.pow_succ, Nat.add_mul, Nat.mul_comm (2 ^ (8 - (m + 1))) 2, ← Nat.mul_assoc, Nat.mul_comm q 2]
    · rw [Nat.pow_succ]
      omega
/-! The digits of bytes, bit by bit. -/
def bitB (b : List UInt8) (k : Nat) : Nat := (b.getD (k / 8) 0).toNat / 2 ^ (7 - k % 8) % 2
def digB (b : List UInt8) (i : Nat) : Nat → Nat
  | 0 => 0
  | m + 1 => 2 * digB b i m + bitB b (6 * i + m)
theorem bitB_lt (b : List UInt8) (i : Nat) : bitB b i < 2 := Nat.mod_lt _ (by decide)
theorem bitB_shift (x y z : UInt8) (t : List UInt8) (i : Nat) : bitB (x :: y :: z :: t) (24 + i) = bitB t i := by
  unfold bitB
  rw [show (24 + i) / 8 = i / 8 + 1 + 1 + 1 by omega, show (24 + i) % 8 = i % 8 by omega, List.getD_cons_succ, List.getD_cons_succ, List.getD_cons_succ]
theorem digB_shift (x y z : UInt8) (t : List UInt8) (j : Nat) : ∀ m, digB (x :: y :: z :: t) (j + 4) m = digB t j m
  | 0 => rfl
  | m + 1 => by rw [digB, digB, digB_shift x y z t j m, show 6 * (j + 4) + m = 24 + (6 * j + m) by omega, bitB_shift]
theorem digB_lt (b : List UInt8) (i : Nat) : ∀ m, digB b i m < 2 ^ m
  | 0 => Nat.one_pos
  | m + 1 => by
    have := digB_lt b i m
    have hb := bitB_lt b (6 * i + m)
    rw [digB, Nat.pow_succ]
    omega
theorem byte_bits0 : ∀ n : Fin 256, n.val = n.val / 128 % 2 * 128 + n.val / 64 % 2 * 64 + n.val / 32 % 2 * 32 + n.val / 16 % 2 * 16 + n.val / 8 % 2 * 8 + n.val / 4 % 2 * 4 + n.val / 2 % 2 * 2 + n.val % 2 := by decide +kernel
theorem byte_bits (c : UInt8) : c.toNat = c.toNat / 128 % 2 * 128 + c.toNat / 64 % 2 * 64 + c.toNat / 32 % 2 * 32 + c.toNat / 16 % 2 * 16 + c.toNat / 8 % 2 * 8 + c.toNat / 4 % 2 * 4 + c.toNat / 2 % 2 * 2 + c.toNat % 2 := byte_bits0 ⟨c.toNat, c.toNat_lt⟩
theorem encD_len (b : List UInt8) : (encD b).length = (8 * b.length + 5) / 6 := by
  refine three_ind (P := fun b => (encD b).length = (8 * b.length + 5) / 6) rfl (fun _ => by simp [encD]) (fun _ _ => by simp [encD]) (fun x y z t ih => ?_) b
  show (encD t).length + 1 + 1 + 1 + 1 = (8 * (t.length + 1 + 1 + 1) + 5) / 6
  rw [ih]
  omega
theorem dig_enc (b : List UInt8) : ∀ i, i < (encD b).length → (encD b)[i]? = some (digB b i 6) := by
  refine three_ind (P := fun b => ∀ i, i < (encD b).length → (encD b)[i]? = some (digB b i 6)) ?_ ?_ ?_ ?_ b
  · exact fun i hi => absurd hi (Nat.not_lt_zero _)
  · intro x i hi
    have hx := byte_bits x
    have hx' := x.toNat_lt
    have hi2 : i = 0 ∨ i = 1 := by have : i < 2 := hi; omega
    rcases hi2 with rfl | rfl
    · have e : digB [x] 0 6 = x.toNat / 4 := by
        show 2 * (2 * (2 * (2 * (2 * (2 * 0 + x.toNat / 128 % 2) + x.toNat / 64 % 2) + x.toNat / 32 % 2) + x.toNat / 16 % 2) + x.toNat / 8 % 2) + x.toNat / 4 % 2 = x.toNat / 4
        omega
      rw [e]
      rfl
    · have e : digB [x] 1 6 = x.toNat % 4 * 16 := by
        show 2 * (2 * (2 * (2 * (2 * (2 * 0 + x.toNat / 2 % 2) + x.toNat / 1 % 2) + (0 : UInt8).toNat / 128 % 2) + (0 : UInt8).toNat / 64 % 2) + (0 : UInt8).toNat / 32 % 2) + (0 : UInt8).toNat / 16 % 2 = x.toNat % 4 * 16
        have h0 : (0 : UInt8).toNat = 0 := rfl
        rw [h0]
        omega
      rw [e]
      rfl
  · intro x y i hi
    have hx := byte_bits x
    have hx' := x.toNat_lt
    have hy := byte_bits y
    have hy' := y.toNat_lt
    have hi2 : i = 0 ∨ i = 1 ∨ i = 2 := by have : i < 3 := hi; omega
    rcases hi2 with rfl | rfl | rfl
    · have e : digB [x, y] 0 6 = x.toNat / 4 := by
        show 2 * (2 * (2 * (2 * (2 * (2 * 0 + x.toNat / 128 % 2) + x.toNat / 64 % 2) + x.toNat / 32 % 2) + x.toNat / 16 % 2) + x.toNat / 8 % 2) + x.toNat / 4 % 2 = x.toNat / 4
        omega
      rw [e]
      rfl
    · have e : digB [x, y] 1 6 = x.toNat % 4 * 16 + y.toNat / 16 := by
        show 2 * (2 * (2 * (2 * (2 * (2 * 0 + x.toNat / 2 % 2) + x.toNat / 1 % 2) + y.toNat / 128 % 2) + y.toNat / 64 % 2) + y.toNat / 32 % 2) + y.toNat / 16 % 2 = x.toNat % 4 * 16 + y.toNat / 16
        omega
      rw [e]
      rfl
    · have e : digB [x, y] 2 6 = y.toNat % 16 * 4 := by
        show 2 * (2 * (2 * (2 * (2 * (2 * 0 + y.toNat / 8 % 2) + y.toNat / 4 % 2) + y.toNat / 2 % 2) + y.toNat / 1 % 2) + (0 : UInt8).toNat / 128 % 2) + (0 : UInt8).toNat / 64 % 2 = y.toNat % 16 * 4
        have h0 : (0 : UInt8).toNat = 0 := rfl
        rw [h0]
        omega
      rw [e]
      rfl
  · intro x y z t ih i hi
    have hx := byte_bits x
    have hx' := x.toNat_lt
    have hy := byte_bits y
    have hy' := y.toNat_lt
    have hz := byte_bits z
    have hz' := z.toNat_lt
    match i with
    | 0 =>
      have e : digB (x :: y :: z :: t) 0 6 = x.toNat / 4 := by
        show 2 * (2 * (2 * (2 * (2 * (2 * 0 + x.toNat / 128 % 2) + x.toNat / 64 % 2) + x.toNat / 32 % 2) + x.toNat / 16 % 2) + x.toNat / 8 % 2) + x.toNat / 4 % 2 = x.toNat / 4
        omega
      rw [e]
      rfl
    | 1 =>
      have e : digB (x :: y :: z :: t) 1 6 = x.toNat % 4 * 16 + y.toNat / 16 := by
        show 2 * (2 * (2 * (2 * (2 * (2 * 0 + x.toNat / 2 % 2) + x.toNat / 1 % 2) + y.toNat / 128 % 2) + y.toNat / 64 % 2) + y.toNat / 32 % 2) + y.toNat / 16 % 2 = x.toNat % 4 * 16 + y.toNat / 16
        omega
      rw [e]
      rfl
    | 2 =>
      have e : digB (x :: y :: z :: t) 2 6 = y.toNat % 16 * 4 + z.toNat / 64 := by
        show 2 * (2 * (2 * (2 * (2 * (2 * 0 + y.toNat / 8 % 2) + y.toNat / 4 % 2) + y.toNat / 2 % 2) + y.toNat / 1 % 2) + z.toNat / 128 % 2) + z.toNat / 64 % 2 = y.toNat % 16 * 4 + z.toNat / 64
        omega
      rw [e]
      rfl
    | 3 =>
      have e : digB (x :: y :: z :: t) 3 6 = z.toNat % 64 := by
        show 2 * (2 * (2 * (2 * (2 * (2 * 0 + z.toNat / 32 % 2) + z.toNat / 16 % 2) + z.toNat / 8 % 2) + z.toNat / 4 % 2) + z.toNat / 2 % 2) + z.toNat / 1 % 2 = z.toNat % 64
        omega
      rw [e]
      rfl
    | i + 4 =>
      rw [digB_shift]
      exact ih i (by simpa [encD] using hi)
end Go.Proofs.YtgddhkanfcpipaaGreatDoor
