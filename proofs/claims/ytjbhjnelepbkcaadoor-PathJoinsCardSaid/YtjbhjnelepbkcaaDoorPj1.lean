/- path.Join, Parent and their references walked; append of a read path. Conditions: paths of at most 10^9 steps. -/
import Derived.Test.YtjbhjnelepbkcaaDoorPv3
import Derived.Test.YtjbhjnelepbkcaaDoorPs6
import Derived.Deep.AppendSrc
namespace Go.Proofs.YtjbhjnelepbkcaaDoor
open Go.RowKit Go.Shelf
set_option maxHeartbeats 1000000
set_option maxRecDepth 100000

theorem flat_cells {w : World} {g o : Nat} {l : List St} (h : At3 w g o l) : ∀ j u, (l.flatMap stk)[j]? = some u → w.cell? ((⟨g, o, none⟩ : Addr).add j) = some u := by
  intro j u hu
  have hadd : (⟨g, o, none⟩ : Addr).add j = ⟨g, o + j, none⟩ := by unfold Addr.add; split <;> simp_all
  rw [hadd]
  have hlen : (l.flatMap stk).length = l.length * 3 := by
    clear h hu
    induction l with
    | nil => rfl
    | cons x l ih => rw [List.flatMap_cons, List.length_append, ih, stk_len, List.length_cons]; omega
  have hj : j < l.length * 3 := by
    rw [List.getElem?_eq_some_iff] at hu
    obtain ⟨h1, _⟩ := hu
    omega
  have hi : j / 3 < l.length := by omega
  obtain ⟨c0, c1, c2⟩ := h (j / 3) hi
  have hf := flat_get stk 3 stk_len l (j / 3) hi (j % 3) (by omega)
  rw [show j / 3 * 3 + j % 3 = j by omega, hu] at hf
  rcases (by omega : j % 3 = 0 ∨ j % 3 = 1 ∨ j % 3 = 2) with h3 | h3 | h3
  · rw [h3] at hf
    rw [show o + j = o + j / 3 * 3 by omega, c0, hf]; rfl
  · rw [h3] at hf
    rw [show o + j = o + j / 3 * 3 + 1 by omega, c1, hf]; rfl
  · rw [h3] at hf
    rw [show o + j = o + j / 3 * 3 + 2 by omega, c2, hf]; rfl
theorem flat_len3 (l : List St) : (l.flatMap stk).length = l.length * 3 := by
  induction l with
  | nil => rfl
  | cons x l ih => rw [List.flatMap_cons, List.length_append, ih, stk_len, List.length_cons]; omega
theorem flat_one (l : List St) : ∀ u ∈ l.flatMap stk, u.oneCell' = true := by
  intro u hu
  obtain ⟨x, _, hx⟩ := List.mem_flatMap.1 hu
  exact stk_one x u hx
/-- 'append(v, p...)': p is a path that is read. -/
theorem wp_appendRd {P : Program} {w1 : World} {ops : Array Oper} {rest : List Oper} {o : Oper} {a : Act} {Q : Exit → Act → World → Prop} {t e : TypeId} {base n : Nat} {v u : Value} {xs : List Value} {l : List St}
    (he : Elem P t e 3) (hgd : o.guard = none) (s x : Operand) (ho : o.op = .call { callee := .builtin .append, args := #[s, x], argTypes := #[t, t] })
    (hown : w1.ownsRow base e 3 v n xs) (hu : Rd w1 u l) (hs : a.eval s = v) (hx : a.eval x = u)
    (hn : n + l.length < 100000000000) (hbase : base ≤ w1.heap.size)
    (h : ∀ v' w', w'.ownsRow base e 3 v' (n + l.length) (xs ++ l.flatMap stk) → w1.grownBy w' v.ownBlock → Below base w1 w' → wpList P ops Q rest (a.put o.dst v') w') :
    wpList P ops Q (o :: rest) a w1 := by
  obtain ⟨ht, hsz, i, z, hi, hz, hsi, hby, hzs⟩ := he
  have hbytes : (n + l.length) * i.bytes ≤ 140737488355328 := Nat.le_trans (Nat.mul_le_mul (show n + l.length ≤ 100000000000 by omega) hby) (by decide)
  have fin : ∀ v' w', w'.ownsRow base e 3 v' (n + l.length) (xs ++ l.flatMap stk) → w1.grownBy w' v.ownBlock → wpList P ops Q rest (a.put o.dst v') w' :=
    fun v' w' h1 h2 => h v' w' h1 h2 ((Below.refl base w1).grown h2 hbase (fun k hk => (hown.lt k hk).1))
  obtain ⟨ad, cap, rfl, hcap, hmax, hnil, hl⟩ := hu
  rcases ad with _ | ad
  · have h0 := hnil rfl
    have hl0 : l = [] := List.length_eq_zero_iff.1 (by omega)
    subst hl0 h0
    simp only [List.length_nil] at hx fin
    have hrun : (Builtin.append_ #[t, t] o.type #[v, .slice none 0 0]).run P w1 = .ok v w1 := by
      rcases hown.2 with ⟨rfl, rfl⟩ | ⟨g, cap, cur, rfl, _, hh, hnc, hc, hsc⟩
      · simp [Builtin.append_, run_underlying ht, sizeOf, typeInfo, hi, Builtin.lenOf, Builtin.firstCells]
      · have := run_append_room_src (P := P) w1 t t o.type e i ht hi g 0 n cap (.slice none 0 0) 0 [] (Src.ofNil w1 ht 0) (by omega) (by intro j hj; cases hj) (by intro j hj; cases hj)
        exact this
    refine wpList_plain hgd fun K hK => ?_
    unfold Oper.wp execOp
    simp only [ho, resolve, invoke, builtin, Sem.run_bind, Sem.run_pure, Result.andThen_ok, List.map_toArray, List.map_cons, List.map_nil, hs, hx, hrun]
    exact hK _ _ (fin v w1 (by simpa using hown) ⟨rfl, rfl, rfl, Nat.le_refl _, fun _ _ _ => rfl⟩)
  · refine wpList_append_own _ hgd s x t ho base e i z 3 i.bytes ht hi hz hsi rfl hzs hsz v n xs hs hown ad l.length cap (l.flatMap stk) hx (flat_len3 l) ?_ (flat_one l) (by simp only [maxLen]; omega) hbytes hbase (fun v' w' h1 h2 _ => fin v' w' h1 h2)
    by_cases hl0 : l = []
    · subst hl0; intro j u hu; simp at hu
    · obtain ⟨g, off, had, _, hat⟩ := hl hl0
      cases had
      exact flat_cells hat
/-- What Join hands back. -/
def JoiPost (w : World) (l : List St) (e : Ending) (w' : World) : Prop :=
  ∃ v, e = .returned v ∧ w'.ownsRow w.heap.size 26 3 v l.length (l.flatMap stk) ∧ Below w.heap.size w w'
theorem PJoin_any (v u : Value) (l m : List St) (w : World) (hv : Rd w v l) (hu : Rd w u m) (hl : l.length ≤ 1000000000) (hm : m.length ≤ 1000000000) :
    Calls Tryd.prog 21 #[v, u] w (JoiPost w (l ++ m)) := by
  have HV := Lib.hid hv
  have HU := Lib.hid hu
  clear hv hu
  go_enter Tryd.func21, Tryd.ntmps21
  go_wp2_with (at_builtin; first
    | (refine wp_appendRd elem_step rfl _ _ rfl (World.ownsRow_nil w w.heap.size _ 3) HV.out rfl rfl (by omega) (Nat.le_refl _) ?_; intro v1 w1 hown1 hg1 hb1; rw [Nat.zero_add, List.nil_append] at hown1; have HU1 := Lib.hid (HU.out.below hb1))
    | (refine wp_appendRd elem_step rfl _ _ rfl hown1 HU1.out rfl rfl (by omega) hb1.size ?_; intro v2 w2 hown2 hg2 hb2))
  have hown3 : w2.ownsRow w.heap.size 26 3 v2 (l ++ m).length ((l ++ m).flatMap stk) := by
    rw [List.length_append, List.flatMap_append]; exact hown2
  go_ret
  exact ⟨_, rfl, hown3, hb1.trans hb2⟩
theorem own_empty (w : World) (e : TypeId) : (w.alloc (.cells #[] e)).ownsRow w.heap.size e 3 (.slice (some ⟨w.heap.size, 0, none⟩) 0 0) 0 [] :=
  ⟨rfl, .inr ⟨w.heap.size, 0, #[], rfl, Nat.le_refl _, heap_alloc_new w _, Nat.le_refl _, by decide, rfl, rfl⟩⟩
theorem RJoin_any (v u : Value) (l m : List St) (w : World) (hv : Rd w v l) (hu : Rd w u m) (hl : l.length ≤ 1000000000) (hm : m.length ≤ 1000000000) :
    Calls Tryd.prog 24 #[v, u] w (JoiPost w (l ++ m)) := by
  have hb0 : Below w.heap.size w (w.alloc (.cells #[] 26)) := (Below.refl _ w).alloc (Nat.le_refl _) _
  have HV := Lib.hid (hv.below hb0)
  have HU := Lib.hid hu
  have hown0 := own_empty w 26
  have hs0 : w.heap.size ≤ (w.alloc (.cells #[] 26)).heap.size := by simp
  clear hv hu
  go_enter Tryd.func24, Tryd.ntmps24
  go_wp2_with (at_builtin; first
    | (refine wp_appendRd elem_step rfl _ _ rfl hown0 HV.out rfl rfl (by omega) hs0 ?_; intro v1 w1 hown1 hg1 hb1; rw [Nat.zero_add, List.nil_append] at hown1; have hbw1 := hb0.trans hb1; have HU1 := Lib.hid (HU.out.below hbw1))
    | (refine wp_appendRd elem_step rfl _ _ rfl hown1 HU1.out rfl rfl (by omega) hbw1.size ?_; intro v2 w2 hown2 hg2 hb2))
  have hown3 : w2.ownsRow w.heap.size 26 3 v2 (l ++ m).length ((l ++ m).flatMap stk) := by
    rw [List.length_append, List.flatMap_append]; exact hown2
  go_ret
  exact ⟨_, rfl, hown3, hbw1.trans hb2⟩
def ParT (l : List St) : Value := .bool (decide (l ≠ []))
theorem PParent_any (v : Value) (l : List St) (w : World) (hv : Rd w v l) (hl : l.length ≤ 1000000000) :
    Calls Tryd.prog 22 #[v] w fun e w' => ∃ u, e = .returned (.tuple #[u, ParT l]) ∧ Rd w' u l.dropLast ∧ Below w.heap.size w w' := by
  have HV := Lib.hid hv
  obtain ⟨a, cap, rfl, _, _, _, _⟩ := hv
  by_cases h0 : l.length = 0
  · have hl0 : l = [] := List.length_eq_zero_iff.1 h0
    subst hl0
    have e0 : (((List.length ([] : List St) : Nat) : Int) == 0) = true := rfl
    clear h0 hl
    go_enter Tryd.func22, Tryd.ntmps22
    go_wp2_with fail
    go_ret2
    exact ⟨.slice none 0 0, rfl, Rd.nil, Below.refl _ _⟩
  · have e0 : ((l.length : Int) == 0) = false := beq_eq_false_iff_ne.2 (by omega)
    have hne : l ≠ [] := fun h => h0 (by rw [h]; rfl)
    have hp : ParT l = .bool true := by unfold ParT; rw [decide_eq_true hne]
    have HP := Lib.hid hp
    have hd : l.dropLast.length ≤ 1000000000 := by rw [List.length_dropLast]; omega
    have hu := Rd.upto HV.out (l.length - 1) (by omega)
    rw [← List.dropLast_eq_take] at hu
    have HJ := Lib.hid (PJoin_any _ _ l.dropLast [] w hu Rd.nil hd (by decide))
    rw [List.append_nil] at HJ
    have hn1 : 1 ≤ l.length := by omega
    have hn2 : l.length - 1 ≤ cap := by omega
    clear hp hne hu h0 hd
    go_enter Tryd.func22, Tryd.ntmps22
    go_wp2_with fail
    refine HJ.out.mono ?_
    rintro e w1 ⟨u, rfl, hown, hb⟩
    have HR := Lib.hid (Rd.of_own hown)
    clear hown
    go_wp2_with fail
    go_ret2
    exact ⟨u, by rw [HP.out]; rfl, HR.out, hb⟩
theorem RParent_any (v : Value) (l : List St) (w : World) (hv : Rd w v l) (hl : l.length ≤ 1000000000) :
    Calls Tryd.prog 23 #[v] w fun e w' => ∃ u, e = .returned (.tuple #[u, ParT l]) ∧ Rd w' u l.dropLast ∧ Below w.heap.size w w' := by
  have HV := Lib.hid hv
  obtain ⟨a, cap, rfl, _, _, _, _⟩ := hv
  by_cases h0 : l.length = 0
  · have hl0 : l = [] := List.length_eq_zero_iff.1 h0
    subst hl0
    have e0 : (((List.length ([] : List St) : Nat) : Int) == 0) = true := rfl
    clear h0 hl
    go_enter Tryd.func23, Tryd.ntmps23
    go_wp2_with fail
    go_ret2
    exact ⟨.slice none 0 0, rfl, Rd.nil, Below.refl _ _⟩
  · have e0 : ((l.length : Int) == 0) = false := beq_eq_false_iff_ne.2 (by omega)
    have hne : l ≠ [] := fun h => h0 (by rw [h]; rfl)
    have hp : ParT l = .bool true := by unfold ParT; rw [decide_eq_true hne]
    have HP := Lib.hid hp
    have hu := Rd.upto HV.out (l.length - 1) (by omega)
    rw [← List.dropLast_eq_take] at hu
    have HU := Lib.hid hu
    have hn1 : 1 ≤ l.length := by omega
    have hn2 : l.length - 1 ≤ cap := by omega
    clear hp hne hu h0
    go_enter Tryd.func23, Tryd.ntmps23
    go_wp2_with fail
    go_ret2
    exact ⟨_, by rw [HP.out]; rfl, HU.out, Below.refl _ _⟩
end Go.Proofs.YtjbhjnelepbkcaaDoor
