/- Small laws on memory: rows that a call owns, over worlds that only grow. Conditions: none. -/
import Derived.Test.YthdninnjjmhpfaaGreatDoorStr
import Derived.WalkSpells
import Derived.WalkLawsBesides
import Derived.Lib.AppendStr
namespace Go.Proofs.YthdninnjjmhpfaaGreatDoor
open Go.RowKit

theorem grown_of_below {w w' : World} (h : Below w.heap.size w w') (row : Option Nat) : w.grownBy w' row :=
  ⟨h.os, h.tape, h.output, h.size, fun k hk _ => h.block k hk⟩
theorem own_below {w w' : World} {base : Nat} {e : TypeId} {size : Nat} {v : Value} {n : Nat} {xs : List Value} (h : w.ownsRow base e size v n xs) (hb : Below w.heap.size w w') : w'.ownsRow base e size v n xs :=
  h.kept (grown_of_below hb none) (by cases hv : v.ownBlock <;> simp)
theorem below_grown {W w w' : World} {base : Nat} {e : TypeId} {size : Nat} {v : Value} {n : Nat} {xs : List Value} (h : Below W.heap.size W w) (hown : w.ownsRow base e size v n xs) (hB : W.heap.size ≤ base) (hg : w.grownBy w' v.ownBlock) : Below W.heap.size W w' :=
  h.grown hg h.size (fun k hk => Nat.le_trans hB (hown.lt k hk).1)
theorem own_low {w : World} {base base' : Nat} {e : TypeId} {size : Nat} {v : Value} {n : Nat} {xs : List Value} (h : w.ownsRow base e size v n xs) (hb : base' ≤ base) : w.ownsRow base' e size v n xs := by
  refine ⟨h.1, ?_⟩
  rcases h.2 with h | ⟨g, cap, cur, h1, h2, h3⟩
  · exact .inl h
  · exact .inr ⟨g, cap, cur, h1, Nat.le_trans hb h2, h3⟩

/-- A slice type t whose elements are of type e: size cells each. -/
def Elem (P : Program) (t e : TypeId) (size : Nat) : Prop :=
  P.underlying t = some (.slice e) ∧ 0 < size ∧ ∃ (i : TypeInfo) (z : Value), P.info? e = some i ∧ i.zero = some z ∧ i.size = size ∧ i.bytes ≤ 1024 ∧ z.cells.size = size
theorem elem_of {P : Program} {t e : TypeId} {z : Value} {size bytes : Nat} (h0 : P.underlying t = some (.slice e)) (h : (P.info? e).map (fun i => (i.zero, i.size, i.bytes)) = some (some z, size, bytes)) (h1 : 0 < size) (h2 : bytes ≤ 1024) (h3 : z.cells.size = size) : Elem P t e size := by
  obtain ⟨i, hi, hz, hs, hb⟩ := info_parts h
  exact ⟨h0, h1, i, z, hi, hz, hs, by omega, h3⟩

theorem new_cells (w : World) (us : List Value) (e : TypeId) : ∀ j u, us[j]? = some u → (w.alloc (.cells us.toArray e)).cell? ((⟨w.heap.size, 0, none⟩ : Addr).add j) = some u := by
  intro j u hu
  have hadd : (⟨w.heap.size, 0, none⟩ : Addr).add j = ⟨w.heap.size, j, none⟩ := by unfold Addr.add; split <;> simp_all
  rw [hadd, cell_of_row (w.alloc (.cells us.toArray e)) w.heap.size j us.toArray e (0, 0) (heap_alloc_new w _)]
  simpa using hu

/-- 'v = append(v, x)': x is one element, just laid in a new block. -/
theorem wp_push {P : Program} {w1 : World} {ops : Array Oper} {rest : List Oper} {o : Oper} {a : Act} {Q : Exit → Act → World → Prop} {t e : TypeId} {size base n : Nat} {v : Value} {xs : List Value}
    (he : Elem P t e size) (hgd : o.guard = none) (s x : Operand) (ho : o.op = .call { callee := .builtin .append, args := #[s, x], argTypes := #[t, t] })
    (hown : w1.ownsRow base e size v n xs) (us : List Value) (hus : us.length = size) (h1 : ∀ u ∈ us, u.oneCell' = true) (hs : a.eval s = v) (hx : a.eval x = .slice (some ⟨w1.heap.size, 0, none⟩) 1 1)
    (hn : n < 100000000000) (hbase : base ≤ w1.heap.size)
    (h : ∀ v' w', w'.ownsRow base e size v' (n + 1) (xs ++ us) → w1.grownBy w' v.ownBlock → Below base w1 w' → wpList P ops Q rest (a.put o.dst v') w') :
    wpList P ops Q (o :: rest) a (w1.alloc (.cells us.toArray e)) := by
  obtain ⟨ht, hsz, i, z, hi, hz, hsi, hby, hzs⟩ := he
  refine wpList_append_own _ hgd s x t ho base e i z size i.bytes ht hi hz hsi rfl hzs hsz v n xs hs (hown.alloc _) ⟨w1.heap.size, 0, none⟩ 1 1 us hx (by rw [hus]; omega) (new_cells w1 us e) h1 (by simp only [maxLen]; omega) ?_ (by simp; omega) ?_
  · exact Nat.le_trans (Nat.mul_le_mul (show n + 1 ≤ 100000000000 by omega) hby) (by decide)
  · intro v' w' hown' hg _
    have hg' : w1.grownBy w' v.ownBlock := ⟨hg.os, hg.tape, hg.output, Nat.le_trans (by simp) hg.size, fun k hk hne => (hg.block k (by simp; omega) hne).trans (heap_alloc_old w1 _ hk)⟩
    exact h v' w' hown' hg' ((Below.refl base w1).grown hg' hbase (fun k hk => (hown.lt k hk).1))

/-- The same, the new block's number given apart. -/
theorem wp_pushG {P : Program} {w1 : World} {ops : Array Oper} {rest : List Oper} {o : Oper} {a : Act} {Q : Exit → Act → World → Prop} {t e : TypeId} {size base n : Nat} {v : Value} {xs : List Value}
    (he : Elem P t e size) (hgd : o.guard = none) (s x : Operand) (ho : o.op = .call { callee := .builtin .append, args := #[s, x], argTypes := #[t, t] })
    (hown : w1.ownsRow base e size v n xs) (us : List Value) (hus : us.length = size) (h1 : ∀ u ∈ us, u.oneCell' = true) (hs : a.eval s = v) (g : Nat) (hg : w1.heap.size = g) (hx : a.eval x = .slice (some ⟨g, 0, none⟩) 1 1)
    (hn : n < 100000000000) (hbase : base ≤ w1.heap.size)
    (h : ∀ v' w', w'.ownsRow base e size v' (n + 1) (xs ++ us) → w1.grownBy w' v.ownBlock → Below base w1 w' → wpList P ops Q rest (a.put o.dst v') w') :
    wpList P ops Q (o :: rest) a (w1.alloc (.cells us.toArray e)) := by
  subst hg
  exact wp_push he hgd s x ho hown us hus h1 hs hx hn hbase h

theorem own_ne {w : World} {base : Nat} {e : TypeId} {size : Nat} {v : Value} {n : Nat} {xs : List Value} (hown : w.ownsRow base e size v n xs) {g : Nat} (hg : w.heap.size ≤ g) : some g ≠ v.ownBlock := by
  intro h
  have := (hown.lt g h.symm).2
  omega
theorem cell_kept {w1 w2 : World} {row : Option Nat} (hg : w1.grownBy w2 row) {g i : Nat} {u : Value} (h : w1.cell? ⟨g, i, none⟩ = some u) (hne : some g ≠ row) : w2.cell? ⟨g, i, none⟩ = some u := hg.cell h hne

/-! Rows of bytes. -/
def bv (b : UInt8) : Value := .int .u8 (b.toNat : Int)
theorem bv_one (l : List UInt8) : ∀ u ∈ l.map bv, u.oneCell' = true := by
  intro u hu
  obtain ⟨b, _, rfl⟩ := List.mem_map.1 hu
  rfl
theorem strCells_L (s : ByteArray) : Lib.strCells s = (L s).map bv := rfl
/-- t: the slices of bytes; u: strings; e: bytes. -/
def BytesT (P : Program) (t u e : TypeId) : Prop :=
  P.underlying t = some (.slice e) ∧ P.underlying u = some .string ∧ P.underlying e = some (.int .u8) ∧ ∃ i : TypeInfo, P.info? e = some i ∧ i.zero = some (.int .u8 0) ∧ i.size = 1 ∧ i.bytes = 1
theorem bytesT_of {P : Program} {t u e : TypeId} (h0 : P.underlying t = some (.slice e)) (h1 : P.underlying u = some .string) (h2 : P.underlying e = some (.int .u8)) (h : (P.info? e).map (fun i => (i.zero, i.size, i.bytes)) = some (some (.int .u8 0), 1, 1)) : BytesT P t u e := by
  obtain ⟨i, hi, hz, hs, hb⟩ := info_parts h
  exact ⟨h0, h1, h2, i, hi, hz, hs, hb⟩
theorem BytesT.elem {P : Program} {t u e : TypeId} (h : BytesT P t u e) : Elem P t e 1 := by
  obtain ⟨h0, _, _, i, hi, hz, hs, hb⟩ := h
  exact ⟨h0, by decide, i, _, hi, hz, hs, by omega, rfl⟩

/-- 'v = append(v, s...)', s a string. -/
theorem wp_pushS {P : Program} {w1 : World} {ops : Array Oper} {rest : List Oper} {o : Oper} {a : Act} {Q : Exit → Act → World → Prop} {t u e : TypeId} {base n : Nat} {v : Value} {bs : List UInt8}
    (he : BytesT P t u e) (hgd : o.guard = none) (sl x : Operand) (ho : o.op = .call { callee := .builtin .append, args := #[sl, x], argTypes := #[t, u] })
    (hown : w1.ownsRow base e 1 v n (bs.map bv)) (s : ByteArray) (hs : a.eval sl = v) (hx : a.eval x = .string s)
    (hn : n + s.size < 100000000000000) (hbase : base ≤ w1.heap.size)
    (h : ∀ v' w', w'.ownsRow base e 1 v' (n + s.size) ((bs ++ L s).map bv) → w1.grownBy w' v.ownBlock → Below base w1 w' → wpList P ops Q rest (a.put o.dst v') w') :
    wpList P ops Q (o :: rest) a w1 := by
  obtain ⟨ht, hu, _, i, hi, hz, hsi, hby⟩ := he
  refine Lib.wpList_append_own_string w1 hgd sl x t u ho base e i ht hu hi hz hsi hby v n _ hs hown s hx (by simp only [maxLen]; omega) (by omega) hbase ?_
  intro v' w' hown' hg _
  rw [strCells_L, ← List.map_append] at hown'
  exact h v' w' hown' hg ((Below.refl base w1).grown hg hbase (fun k hk => (hown.lt k hk).1))

/-- 'string(v)' of a row of bytes. -/
theorem conv_own {P : Program} {w : World} {t u e : TypeId} {base n : Nat} {v : Value} {bs : List UInt8} (he : BytesT P t u e) (hown : w.ownsRow base e 1 v n (bs.map bv)) :
    (convert t u v).run P w = .ok (.string ⟨bs.toArray⟩) w := by
  obtain ⟨ht, hu, hb, _⟩ := he
  have hl := hown.1
  rw [List.length_map, Nat.mul_one] at hl
  rcases hown.2 with ⟨rfl, h0⟩ | ⟨g, cap, cur, rfl, _, hh, _, _, _, _⟩
  · have : bs = [] := List.eq_nil_of_length_eq_zero (by omega)
    subst this
    exact run_convert_bytes_nil w t e ht hb 0 0 u hu
  · subst hl
    refine run_convert_bytes_back w t u e ⟨g, 0, none⟩ cap bs ht hb hu (fun j hj => ?_)
    exact hown.cells (g := g) rfl j (bv bs[j]) (by rw [List.getElem?_map, List.getElem?_eq_getElem hj]; rfl)
end Go.Proofs.YthdninnjjmhpfaaGreatDoor
