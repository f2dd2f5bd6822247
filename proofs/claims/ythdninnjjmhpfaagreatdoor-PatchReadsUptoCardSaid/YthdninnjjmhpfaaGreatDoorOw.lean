/- Appends to a row of one's own: which block the new row lies in. Conditions: none. -/
import Derived.Test.YthdninnjjmhpfaaGreatDoorMem
namespace Go.Proofs.YthdninnjjmhpfaaGreatDoor
open Go.RowKit
set_option maxRecDepth 100000
set_option maxHeartbeats 1000000

/-- The new row lies where the old one lay, or in a new block. -/
def FreshRow (w : World) (v v' : Value) : Prop := v'.ownBlock = v.ownBlock ∨ ∀ g, v'.ownBlock = some g → w.heap.size ≤ g
theorem run_own2 {P : Program} {w : World} {t ty e : TypeId} {size base n : Nat} {v : Value} {xs : List Value} (he : Elem P t e size) (hown : w.ownsRow base e size v n xs)
    (a : Addr) (m c : Nat) (news : List Value) (hl : news.length = m * size) (hnews : ∀ j u, news[j]? = some u → w.cell? (a.add j) = some u) (h1 : ∀ u ∈ news, u.oneCell' = true)
    (hb : ∀ i, P.info? e = some i → (n + m) * i.bytes ≤ 140737488355328) (hm : n + m ≤ maxLen) (hbase : base ≤ w.heap.size) :
    ∃ v' w', (Builtin.append_ #[t, t] ty #[v, .slice (some a) m c]).run P w = .ok v' w' ∧ w'.ownsRow base e size v' (n + m) (xs ++ news) ∧ w.grownBy w' v.ownBlock ∧ FreshRow w v v' := by
  obtain ⟨ht, hsz, i, z, hi, hz, hsi, _, hzs⟩ := he
  subst hsi
  have hbytes := hb i hi
  have hm' : n + m ≤ 9223372036854775807 := by simp only [maxLen] at hm; omega
  obtain ⟨v', w', hr, h2, h3, _⟩ := run_append_own (P := P) w base t ty e i z i.size i.bytes ht hi hz rfl rfl hzs hsz v n xs hown a m c news hl hnews h1 hm hbytes hbase
  refine ⟨v', w', hr, h2, h3, ?_⟩
  rcases hown.2 with ⟨rfl, h0⟩ | ⟨g, cap, cur, rfl, hbg, hg, hnc, hcm, hcs, htake⟩
  · right
    have hown' : w.ownsRow w.heap.size e i.size (.slice none 0 0) n xs := ⟨hown.1, .inl ⟨rfl, h0⟩⟩
    obtain ⟨v'', w'', hr', h2', _, _⟩ := run_append_own (P := P) w w.heap.size t ty e i z i.size i.bytes ht hi hz rfl rfl hzs hsz _ n xs hown' a m c news hl hnews h1 hm hbytes (Nat.le_refl _)
    have he := hr.symm.trans hr'
    simp only [Result.ok.injEq] at he
    obtain ⟨rfl, rfl⟩ := he
    exact fun g hg => (h2'.lt g hg).1
  · by_cases hroom : n + m ≤ cap
    · left
      have hfit : n * i.size + news.length ≤ cur.size := by rw [hl, hcs, ← Nat.add_mul]; exact Nat.mul_le_mul_right _ hroom
      have hr' := run_append_room (P := P) w t ty e i ht hi g n cap cur hg a m c news hl hnews h1 hroom hfit
      have he := hr.symm.trans hr'
      simp only [Result.ok.injEq] at he
      rw [he.1]
      rfl
    · right
      have holds : ∀ j u, xs[j]? = some u → w.cell? ((⟨g, 0, none⟩ : Addr).add j) = some u := hown.cells (g := g) rfl
      have hr' := run_append_grow (P := P) w t ty e i z ht hi hz ⟨g, 0, none⟩ n cap xs hown.1 holds a m c news hl hnews (by omega) (by omega) (growslice_fits (by omega) hbytes)
      have he := hr.symm.trans hr'
      simp only [Result.ok.injEq] at he
      rw [he.1]
      intro k hk
      simp only [Value.ownBlock, Option.some.injEq] at hk
      omega

/-- 'v = append(v, x...)': x is a row in memory. -/
theorem wp_rowS {P : Program} {w : World} {ops : Array Oper} {rest : List Oper} {o : Oper} {a : Act} {Q : Exit → Act → World → Prop} {t e : TypeId} {size base n : Nat} {v : Value} {xs : List Value}
    (he : Elem P t e size) (hgd : o.guard = none) (s x : Operand) (ho : o.op = .call { callee := .builtin .append, args := #[s, x], argTypes := #[t, t] })
    (hown : w.ownsRow base e size v n xs) (ad : Addr) (m c : Nat) (us : List Value) (hus : us.length = m * size) (hc : ∀ j u, us[j]? = some u → w.cell? (ad.add j) = some u) (h1 : ∀ u ∈ us, u.oneCell' = true) (hs : a.eval s = v) (hx : a.eval x = .slice (some ad) m c)
    (hb : ∀ i, P.info? e = some i → (n + m) * i.bytes ≤ 140737488355328) (hm : n + m ≤ maxLen) (hbase : base ≤ w.heap.size)
    (h : ∀ v' w', w'.ownsRow base e size v' (n + m) (xs ++ us) → w.grownBy w' v.ownBlock → Below base w w' → FreshRow w v v' → wpList P ops Q rest (a.put o.dst v') w') :
    wpList P ops Q (o :: rest) a w := by
  refine wpList_plain hgd fun K hK => ?_
  obtain ⟨v', w', hr, h2, h3, h4⟩ := run_own2 (P := P) (ty := o.type) he hown ad m c us hus hc h1 hb hm hbase
  have hk := hK _ _ (h v' w' h2 h3 ((Below.refl base w).grown h3 hbase (fun k hk => (hown.lt k hk).1)) h4)
  unfold Oper.wp execOp
  simp only [ho, resolve, invoke, builtin, Sem.run_bind, Sem.run_pure, Result.andThen_ok, List.map_toArray, List.map_cons, List.map_nil, hs, hx, hr]
  exact hk
/-- 'v = append(v, x)': x is one element, just laid in a new block. -/
theorem wp_push2 {P : Program} {w1 : World} {ops : Array Oper} {rest : List Oper} {o : Oper} {a : Act} {Q : Exit → Act → World → Prop} {t e : TypeId} {size base n : Nat} {v : Value} {xs : List Value}
    (he : Elem P t e size) (hgd : o.guard = none) (s x : Operand) (ho : o.op = .call { callee := .builtin .append, args := #[s, x], argTypes := #[t, t] })
    (hown : w1.ownsRow base e size v n xs) (us : List Value) (hus : us.length = size) (h1 : ∀ u ∈ us, u.oneCell' = true) (hs : a.eval s = v) (hx : a.eval x = .slice (some ⟨w1.heap.size, 0, none⟩) 1 1)
    (hn : n < 100000000000) (hbase : base ≤ w1.heap.size)
    (h : ∀ v' w', w'.ownsRow base e size v' (n + 1) (xs ++ us) → w1.grownBy w' v.ownBlock → Below base w1 w' → FreshRow w1 v v' → wpList P ops Q rest (a.put o.dst v') w') :
    wpList P ops Q (o :: rest) a (w1.alloc (.cells us.toArray e)) := by
  refine wp_rowS he hgd s x ho (hown.alloc _) ⟨w1.heap.size, 0, none⟩ 1 1 us (by rw [hus]; omega) (new_cells w1 us e) h1 hs hx (fun i hi => ?_) (by simp only [maxLen]; omega) (by simp; omega) ?_
  · obtain ⟨_, _, i', _, hi', _, _, hby, _⟩ := he
    obtain rfl : i = i' := Option.some.inj (hi.symm.trans hi')
    exact Nat.le_trans (Nat.mul_le_mul (show n + 1 ≤ 100000000000 by omega) hby) (by decide)
  · intro v' w' hown' hg hb hf
    have hg' : w1.grownBy w' v.ownBlock := ⟨hg.os, hg.tape, hg.output, Nat.le_trans (by simp) hg.size, fun k hk hne => (hg.block k (by simp; omega) hne).trans (heap_alloc_old w1 _ hk)⟩
    refine h v' w' hown' hg' ((Below.refl base w1).grown hg' hbase (fun k hk => (hown.lt k hk).1)) ?_
    rcases hf with hf | hf
    · exact .inl hf
    · exact .inr fun g hg => Nat.le_trans (by simp) (hf g hg)
/-- The same, at a step of a region that draws its order. -/
theorem step_push2 {P : Program} {w1 : World} {ops : Array Oper} {o : Oper} {a : Act} {K : Act → World → Prop} {Q : Exit → Act → World → Prop} {E : Prop} {t e : TypeId} {size base n : Nat} {v : Value} {xs : List Value}
    (he : Elem P t e size) (hgd : o.guard = none) (s x : Operand) (ho : o.op = .call { callee := .builtin .append, args := #[s, x], argTypes := #[t, t] })
    (hown : w1.ownsRow base e size v n xs) (us : List Value) (hus : us.length = size) (h1 : ∀ u ∈ us, u.oneCell' = true) (hs : a.eval s = v) (hx : a.eval x = .slice (some ⟨w1.heap.size, 0, none⟩) 1 1)
    (hn : n < 100000000000) (hbase : base ≤ w1.heap.size)
    (h : ∀ v' w', w'.ownsRow base e size v' (n + 1) (xs ++ us) → w1.grownBy w' v.ownBlock → Below base w1 w' → FreshRow w1 v v' → (∀ g i, some g ≠ v.ownBlock → g < w1.heap.size → w'.cell? ⟨g, i, none⟩ = (w1.alloc (.cells us.toArray e)).cell? ⟨g, i, none⟩) → K (a.put o.dst v') w') :
    if Region.wanted o (yielded ops a.tmps) = true then Oper.wp P o a (w1.alloc (.cells us.toArray e)) K Q else E := by
  have hw : Region.wanted o (yielded ops a.tmps) = true := by simp [Region.wanted, hgd]
  rw [if_pos hw]
  have he' := he
  obtain ⟨_, _, i', _, hi', _, _, hby, _⟩ := he'
  obtain ⟨v', w', hr, h2, h3, h4⟩ := run_own2 (P := P) (ty := o.type) he (hown.alloc (.cells us.toArray e)) ⟨w1.heap.size, 0, none⟩ 1 1 us (by rw [hus]; omega) (new_cells w1 us e) h1 (fun i hi => by
    obtain rfl : i = i' := Option.some.inj (hi.symm.trans hi')
    exact Nat.le_trans (Nat.mul_le_mul (show n + 1 ≤ 100000000000 by omega) hby) (by decide)) (by simp only [maxLen]; omega) (by simp; omega)
  have hg' : w1.grownBy w' v.ownBlock := ⟨h3.os, h3.tape, h3.output, Nat.le_trans (by simp) h3.size, fun k hk hne => (h3.block k (by simp; omega) hne).trans (heap_alloc_old w1 _ hk)⟩
  have hk := h v' w' h2 hg' ((Below.refl base w1).grown hg' hbase (fun k hk => (hown.lt k hk).1)) (by
    rcases h4 with hf | hf
    · exact .inl hf
    · exact .inr fun g hg => Nat.le_trans (by simp) (hf g hg)) (fun g i hne hlt => World.cell?_of_block (a := ⟨g, i, none⟩) (h3.block g (by simp; omega) hne))
  unfold Oper.wp execOp
  simp only [ho, resolve, invoke, builtin, Sem.run_bind, Sem.run_pure, Result.andThen_ok, List.map_toArray, List.map_cons, List.map_nil, hs, hx, hr]
  exact hk
end Go.Proofs.YthdninnjjmhpfaaGreatDoor
