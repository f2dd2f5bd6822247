/- Rows of steps. Conditions: none. -/
import Derived.Test.YthdninnjjmhpfaaGreatDoorPv2
import Derived.Test.YthdninnjjmhpfaaGreatDoorTv
import Derived.Deep.AppendSrc
namespace Go.Proofs.YthdninnjjmhpfaaGreatDoor
open Go.RowKit
set_option maxHeartbeats 1000000
set_option maxRecDepth 100000

/-- A step's cells. -/
def stk (x : St) : List Value := [.bool x.1, .string x.2.1, .int .i64 x.2.2]
theorem stk_len (x : St) : (stk x).length = 3 := rfl
theorem stk_one (x : St) : ∀ u ∈ stk x, u.oneCell' = true := by
  intro u hu
  simp only [stk, List.mem_cons, List.mem_nil_iff, or_false] at hu
  rcases hu with rfl | rfl | rfl <;> rfl
/-- A row of one's own reads as the path. -/
theorem Rd.of_own {w : World} {base : Nat} {e : TypeId} {v : Value} {l : List St} (h : w.ownsRow base e 3 v l.length (l.flatMap stk)) : Rd w v l := by
  rcases h.2 with ⟨rfl, h0⟩ | ⟨g, cap, cur, rfl, hb, hh, hn, hc, _⟩
  · obtain rfl : l = [] := List.length_eq_zero_iff.1 h0
    exact Rd.nil
  · refine ⟨some ⟨g, 0, none⟩, cap, rfl, hn, by omega, (fun h => by cases h), fun _ => ⟨g, 0, rfl, (h.lt g rfl).2, fun i hi => ?_⟩⟩
    refine ⟨?_, ?_, ?_⟩
    · rw [Nat.zero_add, World.ownsRow.cellAt h (i * 3) (by omega)]
      exact flat_get stk 3 stk_len l i hi 0 (by decide)
    · rw [Nat.zero_add, World.ownsRow.cellAt h (i * 3 + 1) (by omega)]
      exact flat_get stk 3 stk_len l i hi 1 (by decide)
    · rw [Nat.zero_add, World.ownsRow.cellAt h (i * 3 + 2) (by omega)]
      exact flat_get stk 3 stk_len l i hi 2 (by decide)
theorem elem_step : Elem Tryz.prog 52 94 3 := elem_of (z := .agg #[.bool false, .string ⟨#[]⟩, .int .i64 0]) (bytes := 32) Tryz.underlying52 (by kernel_rfl) (by decide) (by decide) rfl
theorem flat_cells {w : World} {g o : Nat} {l : List St} (h : At3 w g o l) : ∀ j u, (l.flatMap stk)[j]? = some u → w.cell? ((⟨g, o, none⟩ : Addr).add j) = some u := by
  intro j u hu
  have hadd : (⟨g, o, none⟩ : Addr).add j = ⟨g, o + j, none⟩ := by unfold Addr.add; split <;> simp_all
  rw [hadd]
  have hlen : (l.flatMap stk).length = l.length * 3 := by
    clear h hu
    induction l with
    | nil => rfl
    | cons x l ih => rw [List.flatMap_cons, List.length_append, ih, stk_len, List.length_cons]; omega
  have hj : j < l.length * 3 := by
    rw [List.getElem?_eq_some_iff] at hu
    obtain ⟨h1, _⟩ := hu
    omega
  have hi : j / 3 < l.length := by omega
  obtain ⟨c0, c1, c2⟩ := h (j / 3) hi
  have hf := flat_get stk 3 stk_len l (j / 3) hi (j % 3) (by omega)
  rw [show j / 3 * 3 + j % 3 = j by omega, hu] at hf
  rcases (by omega : j % 3 = 0 ∨ j % 3 = 1 ∨ j % 3 = 2) with h3 | h3 | h3
  · rw [h3] at hf
    rw [show o + j = o + j / 3 * 3 by omega, c0, hf]; rfl
  · rw [h3] at hf
    rw [show o + j = o + j / 3 * 3 + 1 by omega, c1, hf]; rfl
  · rw [h3] at hf
    rw [show o + j = o + j / 3 * 3 + 2 by omega, c2, hf]; rfl
theorem flat_len3 (l : List St) : (l.flatMap stk).length = l.length * 3 := by
  induction l with
  | nil => rfl
  | cons x l ih => rw [List.flatMap_cons, List.length_append, ih, stk_len, List.length_cons]; omega
theorem stk_all (l : List St) : ∀ u ∈ l.flatMap stk, u.oneCell' = true := by
  intro u hu
  obtain ⟨x, _, hx⟩ := List.mem_flatMap.1 hu
  exact stk_one x u hx
/-- 'append(v, p...)': p is a path that is read. -/
theorem wp_appendRd {P : Program} {w1 : World} {ops : Array Oper} {rest : List Oper} {o : Oper} {a : Act} {Q : Exit → Act → World → Prop} {t e : TypeId} {base n : Nat} {v u : Value} {xs : List Value} {l : List St}
    (he : Elem P t e 3) (hgd : o.guard = none) (s x : Operand) (ho : o.op = .call { callee := .builtin .append, args := #[s, x], argTypes := #[t, t] })
    (hown : w1.ownsRow base e 3 v n xs) (hu : Rd w1 u l) (hs : a.eval s = v) (hx : a.eval x = u)
    (hn : n + l.length < 100000000000) (hbase : base ≤ w1.heap.size)
    (h : ∀ v' w', w'.ownsRow base e 3 v' (n + l.length) (xs ++ l.flatMap stk) → w1.grownBy w' v.ownBlock → Below base w1 w' → wpList P ops Q rest (a.put o.dst v') w') :
    wpList P ops Q (o :: rest) a w1 := by
  obtain ⟨ht, hsz, i, z, hi, hz, hsi, hby, hzs⟩ := he
  have hbytes : (n + l.length) * i.bytes ≤ 140737488355328 := Nat.le_trans (Nat.mul_le_mul (show n + l.length ≤ 100000000000 by omega) hby) (by decide)
  have fin : ∀ v' w', w'.ownsRow base e 3 v' (n + l.length) (xs ++ l.flatMap stk) → w1.grownBy w' v.ownBlock → wpList P ops Q rest (a.put o.dst v') w' :=
    fun v' w' h1 h2 => h v' w' h1 h2 ((Below.refl base w1).grown h2 hbase (fun k hk => (hown.lt k hk).1))
  obtain ⟨ad, cap, rfl, hcap, hmax, hnil, hl⟩ := hu
  rcases ad with _ | ad
  · have h0 := hnil rfl
    have hl0 : l = [] := List.length_eq_zero_iff.1 (by omega)
    subst hl0 h0
    simp only [List.length_nil] at hx fin
    have hrun : (Builtin.append_ #[t, t] o.type #[v, .slice none 0 0]).run P w1 = .ok v w1 := by
      rcases hown.2 with ⟨rfl, rfl⟩ | ⟨g, cap, cur, rfl, _, hh, hnc, hc, hsc⟩
      · simp [Builtin.append_, run_underlying ht, sizeOf, typeInfo, hi, Builtin.lenOf, Builtin.firstCells]
      · have := run_append_room_src (P := P) w1 t t o.type e i ht hi g 0 n cap (.slice none 0 0) 0 [] (Src.ofNil w1 ht 0) (by omega) (by intro j hj; cases hj) (by intro j hj; cases hj)
        exact this
    refine wpList_plain hgd fun K hK => ?_
    unfold Oper.wp execOp
    simp only [ho, resolve, invoke, builtin, Sem.run_bind, Sem.run_pure, Result.andThen_ok, List.map_toArray, List.map_cons, List.map_nil, hs, hx, hrun]
    exact hK _ _ (fin v w1 (by simpa using hown) ⟨rfl, rfl, rfl, Nat.le_refl _, fun _ _ _ => rfl⟩)
  · refine wpList_append_own _ hgd s x t ho base e i z 3 i.bytes ht hi hz hsi rfl hzs hsz v n xs hs hown ad l.length cap (l.flatMap stk) hx (flat_len3 l) ?_ (stk_all l) (by simp only [maxLen]; omega) hbytes hbase (fun v' w' h1 h2 _ => fin v' w' h1 h2)
    by_cases hl0 : l = []
    · subst hl0; intro j u hu; simp at hu
    · obtain ⟨g, off, had, _, hat⟩ := hl hl0
      cases had
      exact flat_cells hat
theorem own_empty (w : World) (e : TypeId) : (w.alloc (.cells #[] e)).ownsRow w.heap.size e 3 (.slice (some ⟨w.heap.size, 0, none⟩) 0 0) 0 [] :=
  ⟨rfl, .inr ⟨w.heap.size, 0, #[], rfl, Nat.le_refl _, heap_alloc_new w _, Nat.le_refl _, by decide, rfl, rfl⟩⟩
end Go.Proofs.YthdninnjjmhpfaaGreatDoor
