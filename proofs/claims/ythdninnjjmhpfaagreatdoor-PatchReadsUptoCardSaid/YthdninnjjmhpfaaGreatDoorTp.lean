/- Values of the data model: plain words, no program in sight. Conditions: none. -/
import Derived.Test.YthdninnjjmhpfaaGreatDoorTv
namespace Go.Proofs.YthdninnjjmhpfaaGreatDoor
open Go.RowKit
set_option maxRecDepth 100000

/-! How many values, and how deep. -/
mutual
def nodV : V → Nat
  | .mk _ l f => 1 + nodL l + nodF f
def nodL : List V → Nat
  | [] => 0
  | x :: t => nodV x + nodL t
def nodF : List (ByteArray × V) → Nat
  | [] => 0
  | (_, x) :: t => nodV x + nodF t
end
mutual
def depV : V → Nat
  | .mk _ l f => 1 + max (depL l) (depF f)
def depL : List V → Nat
  | [] => 0
  | x :: t => max (depV x) (depL t)
def depF : List (ByteArray × V) → Nat
  | [] => 0
  | (_, x) :: t => max (depV x) (depF t)
end
theorem nodV_mk (h : Hd) (l : List V) (f : List (ByteArray × V)) : nodV (.mk h l f) = 1 + nodL l + nodF f := by rw [nodV]
theorem depV_mk (h : Hd) (l : List V) (f : List (ByteArray × V)) : depV (.mk h l f) = 1 + max (depL l) (depF f) := by rw [depV]
theorem nodV_pos (v : V) : 1 ≤ nodV v := by cases v; rw [nodV]; omega
theorem nodL_at : ∀ (l : List V) (i : Nat) (hi : i < l.length), nodV l[i] ≤ nodL l
  | x :: t, 0, _ => by rw [nodL]; simp
  | x :: t, i + 1, hi => by rw [nodL]; have := nodL_at t i (by simpa using hi); simp only [List.getElem_cons_succ]; omega
theorem nodF_at : ∀ (l : List (ByteArray × V)) (i : Nat) (hi : i < l.length), nodV l[i].2 ≤ nodF l
  | (_, x) :: t, 0, _ => by rw [nodF]; simp
  | (_, x) :: t, i + 1, hi => by rw [nodF]; have := nodF_at t i (by simpa using hi); simp only [List.getElem_cons_succ]; omega
theorem depL_at : ∀ (l : List V) (i : Nat) (hi : i < l.length), depV l[i] ≤ depL l
  | x :: t, 0, _ => by rw [depL]; simp; omega
  | x :: t, i + 1, hi => by rw [depL]; have := depL_at t i (by simpa using hi); simp only [List.getElem_cons_succ]; omega
theorem depF_at : ∀ (l : List (ByteArray × V)) (i : Nat) (hi : i < l.length), depV l[i].2 ≤ depF l
  | (_, x) :: t, 0, _ => by rw [depF]; simp; omega
  | (_, x) :: t, i + 1, hi => by rw [depF]; have := depF_at t i (by simpa using hi); simp only [List.getElem_cons_succ]; omega
theorem nodL_len : ∀ l : List V, l.length ≤ nodL l
  | [] => by simp
  | x :: t => by rw [nodL]; have := nodL_len t; have := nodV_pos x; simp only [List.length_cons]; omega
theorem nodF_len : ∀ l : List (ByteArray × V), l.length ≤ nodF l
  | [] => by simp
  | (_, x) :: t => by rw [nodF]; have := nodF_len t; have := nodV_pos x; simp only [List.length_cons]; omega

/-! Is there room? -/
mutual
def roomV : V → Int → Int → Int
  | .mk _ l f, left, depth => if depth ≤ 0 ∨ left - 1 < (l.length : Int) ∨ left - 1 < (f.length : Int) then -1 else roomF f (roomL l (left - 1) (depth - 1)) (depth - 1)
def roomL : List V → Int → Int → Int
  | [], left, _ => left
  | x :: t, left, d => if left < 0 then left else roomL t (roomV x left d) d
def roomF : List (ByteArray × V) → Int → Int → Int
  | [], left, _ => left
  | (_, x) :: t, left, d => if left < 0 then left else roomF t (roomV x left d) d
end
theorem roomV_mk (h : Hd) (l : List V) (f : List (ByteArray × V)) (left depth : Int) : roomV (.mk h l f) left depth = if depth ≤ 0 ∨ left - 1 < (l.length : Int) ∨ left - 1 < (f.length : Int) then -1 else roomF f (roomL l (left - 1) (depth - 1)) (depth - 1) := by rw [roomV]
theorem roomL_neg (l : List V) (left d : Int) (h : left < 0) : roomL l left d = left := by
  cases l with
  | nil => rw [roomL]
  | cons x t => rw [roomL, if_pos h]
theorem roomF_neg (l : List (ByteArray × V)) (left d : Int) (h : left < 0) : roomF l left d = left := by
  cases l with
  | nil => rw [roomF]
  | cons x t => obtain ⟨k, x⟩ := x; rw [roomF, if_pos h]
mutual
theorem roomV_is : ∀ (v : V) (left d : Int), 0 ≤ roomV v left d → roomV v left d = left - nodV v ∧ (depV v : Int) ≤ d
  | .mk h l f, left, d, hr => by
    rw [roomV_mk] at hr ⊢
    split at hr
    · omega
    rename_i hn
    rw [if_neg hn, nodV_mk, depV_mk]
    by_cases h1 : roomL l (left - 1) (d - 1) < 0
    · rw [roomF_neg _ _ _ h1] at hr; omega
    obtain ⟨e1, d1⟩ := roomL_is l (left - 1) (d - 1) (by omega)
    obtain ⟨e2, d2⟩ := roomF_is f _ (d - 1) hr
    rw [e1] at e2
    rw [e1, e2]
    have a1 : (depL l : Int) ≤ d - 1 := by
      rcases d1 with h | rfl
      · exact h
      · rw [depL]; omega
    have a2 : (depF f : Int) ≤ d - 1 := by
      rcases d2 with h | rfl
      · exact h
      · rw [depF]; omega
    exact ⟨by omega, by omega⟩
theorem roomL_is : ∀ (l : List V) (left d : Int), 0 ≤ roomL l left d → roomL l left d = left - nodL l ∧ ((depL l : Int) ≤ d ∨ l = [])
  | [], left, d, hr => by rw [roomL, nodL]; exact ⟨by omega, .inr rfl⟩
  | x :: t, left, d, hr => by
    rw [roomL] at hr ⊢
    split at hr
    · omega
    rename_i hn
    rw [if_neg hn, nodL, depL]
    by_cases h1 : roomV x left d < 0
    · rw [roomL_neg _ _ _ h1] at hr; omega
    obtain ⟨e1, d1⟩ := roomV_is x left d (by omega)
    obtain ⟨e2, d2⟩ := roomL_is t _ d hr
    rw [e1] at e2
    rw [e1, e2]
    refine ⟨by omega, .inl ?_⟩
    rcases d2 with d2 | rfl
    · omega
    · rw [depL]; omega
theorem roomF_is : ∀ (l : List (ByteArray × V)) (left d : Int), 0 ≤ roomF l left d → roomF l left d = left - nodF l ∧ ((depF l : Int) ≤ d ∨ l = [])
  | [], left, d, hr => by rw [roomF, nodF]; exact ⟨by omega, .inr rfl⟩
  | (k, x) :: t, left, d, hr => by
    rw [roomF] at hr ⊢
    split at hr
    · omega
    rename_i hn
    rw [if_neg hn, nodF, depF]
    by_cases h1 : roomV x left d < 0
    · rw [roomF_neg _ _ _ h1] at hr; omega
    obtain ⟨e1, d1⟩ := roomV_is x left d (by omega)
    obtain ⟨e2, d2⟩ := roomF_is t _ d hr
    rw [e1] at e2
    rw [e1, e2]
    refine ⟨by omega, .inl ?_⟩
    rcases d2 with d2 | rfl
    · omega
    · rw [depF]; omega
end

/-! Are they identical? -/
def eqH (h h' : Hd) : Bool := decide (h.kind = h'.kind) && (decide (h.bool = h'.bool) && (decide (h.neg = h'.neg ∧ h.ds = h'.ds ∧ h.exp = h'.exp) && (decide (h.tk = h'.tk ∧ h.day = h'.day ∧ h.nano = h'.nano ∧ h.off = h'.off) && (decide (h.text = h'.text) && decide (h.bytes = h'.bytes)))))
theorem eqH_iff (h h' : Hd) : eqH h h' = true ↔ h = h' := by
  obtain ⟨a0, a1, a2, a3, a4, a5, a6, a7, a8, a9, a10⟩ := h
  obtain ⟨b0, b1, b2, b3, b4, b5, b6, b7, b8, b9, b10⟩ := h'
  unfold eqH
  simp only [Bool.and_eq_true, decide_eq_true_iff, Hd.mk.injEq]
  exact ⟨fun ⟨h0, h1, ⟨h2, h3, h4⟩, ⟨h5, h6, h7, h8⟩, h9, h10⟩ => ⟨h0, h1, h2, h3, h4, h5, h6, h7, h8, h9, h10⟩, fun ⟨h0, h1, h2, h3, h4, h5, h6, h7, h8, h9, h10⟩ => ⟨h0, h1, ⟨h2, h3, h4⟩, ⟨h5, h6, h7, h8⟩, h9, h10⟩⟩
mutual
def eqV : V → V → Bool
  | .mk h l f, .mk h' l' f' => eqH h h' && (eqL l l' && eqF f f')
def eqL : List V → List V → Bool
  | [], [] => true
  | x :: t, y :: u => eqV x y && eqL t u
  | _, _ => false
def eqF : List (ByteArray × V) → List (ByteArray × V) → Bool
  | [], [] => true
  | (k, x) :: t, (k', y) :: u => decide (k = k') && (eqV x y && eqF t u)
  | _, _ => false
end
mutual
theorem eqV_iff : ∀ a b : V, eqV a b = true ↔ a = b
  | .mk h l f, .mk h' l' f' => by
    rw [eqV, Bool.and_eq_true, Bool.and_eq_true, eqH_iff, eqL_iff l l', eqF_iff f f', V.mk.injEq]
theorem eqL_iff : ∀ a b : List V, eqL a b = true ↔ a = b
  | [], [] => by simp [eqL]
  | [], _ :: _ => by simp [eqL]
  | _ :: _, [] => by simp [eqL]
  | x :: t, y :: u => by rw [eqL, Bool.and_eq_true, eqV_iff x y, eqL_iff t u, List.cons.injEq]
theorem eqF_iff : ∀ a b : List (ByteArray × V), eqF a b = true ↔ a = b
  | [], [] => by simp [eqF]
  | [], _ :: _ => by simp [eqF]
  | _ :: _, [] => by simp [eqF]
  | (k, x) :: t, (k', y) :: u => by rw [eqF, Bool.and_eq_true, Bool.and_eq_true, decide_eq_true_iff, eqV_iff x y, eqF_iff t u, List.cons.injEq, Prod.mk.injEq, and_assoc]
end
theorem eqV_self (v : V) : eqV v v = true := (eqV_iff v v).2 rfl
theorem eqV_mk (h h' : Hd) (l l' : List V) (f f' : List (ByteArray × V)) : eqV (.mk h l f) (.mk h' l' f') = (eqH h h' && (eqL l l' && eqF f f')) := by rw [eqV]
theorem eqL_len : ∀ a b : List V, eqL a b = true → a.length = b.length := fun a b h => by rw [(eqL_iff a b).1 h]
theorem eqF_len : ∀ a b : List (ByteArray × V), eqF a b = true → a.length = b.length := fun a b h => by rw [(eqF_iff a b).1 h]
theorem eqL_drop (a b : List V) (k : Nat) (h : k < a.length) (h' : k < b.length) : eqL (a.drop k) (b.drop k) = (eqV a[k] b[k] && eqL (a.drop (k + 1)) (b.drop (k + 1))) := by
  rw [List.drop_eq_getElem_cons h, List.drop_eq_getElem_cons h', eqL]
theorem eqF_drop (a b : List (ByteArray × V)) (k : Nat) (h : k < a.length) (h' : k < b.length) : eqF (a.drop k) (b.drop k) = (decide (a[k].1 = b[k].1) && (eqV a[k].2 b[k].2 && eqF (a.drop (k + 1)) (b.drop (k + 1)))) := by
  rw [List.drop_eq_getElem_cons h, List.drop_eq_getElem_cons h']
  obtain ⟨x, y⟩ := a[k]
  obtain ⟨x', y'⟩ := b[k]
  rw [eqF]
theorem roomL_drop (l : List V) (k : Nat) (h : k < l.length) (left d : Int) (h0 : 0 ≤ left) : roomL (l.drop k) left d = roomL (l.drop (k + 1)) (roomV l[k] left d) d := by
  rw [List.drop_eq_getElem_cons h, roomL, if_neg (by omega)]
theorem roomF_drop (l : List (ByteArray × V)) (k : Nat) (h : k < l.length) (left d : Int) (h0 : 0 ≤ left) : roomF (l.drop k) left d = roomF (l.drop (k + 1)) (roomV l[k].2 left d) d := by
  rw [List.drop_eq_getElem_cons h]
  obtain ⟨x, y⟩ := l[k]
  rw [roomF, if_neg (by omega)]
end Go.Proofs.YthdninnjjmhpfaaGreatDoor
