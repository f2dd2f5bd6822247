/- patch.Invert, datakitref56.Invert, moves walked. Conditions: at most 10^6 changes, each of at most 10^6 values. -/
import Derived.Test.YthdninnjjmhpfaaCc
namespace Go.Proofs.Ythdninnjjmhpfaa
open Go.RowKit
set_option maxHeartbeats 4000000
set_option maxRecDepth 100000

theorem elemC : Elem Try.prog 22 36 29 := elem_of (z := .agg #[.int .i64 0, .slice none 0 0, .int .i64 0, .int .i64 0, .bool false, .bool false, .string ⟨#[]⟩, .int .i64 0, .int .i64 0, .int .i64 0, .int .i64 0, .int .i64 0, .string ⟨#[]⟩, .slice none 0 0, .slice none 0 0, .slice none 0 0, .int .i64 0, .bool false, .bool false, .string ⟨#[]⟩, .int .i64 0, .int .i64 0, .int .i64 0, .int .i64 0, .int .i64 0, .string ⟨#[]⟩, .slice none 0 0, .slice none 0 0, .slice none 0 0]) (bytes := 376) Try.underlying22 (by kernel_rfl) (by decide) (by decide) rfl
theorem stI : (Try.prog.info? 3).map (·.size) = some 1 := by kernel_rfl
theorem rowC {w : World} {g : Nat} {c : CC} {t : TypeId} (h : w.heap[g]? = some (.cells (CC.cells c).toArray t (0, 0))) :
    w.cell? ⟨g, 0, none⟩ = some (.int .i64 c.op) ∧ (∀ j, j < 29 → w.cell? ⟨g, 0 + j, none⟩ = c.cells[j]?) ∧ (∀ j, j < 13 → w.cell? ⟨g, 3 + j, none⟩ = c.o.cells[j]?) ∧ (∀ j, j < 13 → w.cell? ⟨g, 16 + j, none⟩ = c.n.cells[j]?) := by
  have hc : ∀ j, j < 29 → w.cell? ⟨g, 0 + j, none⟩ = c.cells[j]? := fun j _ => by rw [Nat.zero_add, cell_of_row _ _ _ _ _ _ h, List.getElem?_toArray]
  obtain ⟨h0, _, _, h3, h4⟩ := cells29 (o := 0) hc
  exact ⟨h0, hc, fun j hj => by have := h3 j hj; rw [Nat.zero_add] at this; exact this, fun j hj => by have := h4 j hj; rw [Nat.zero_add] at this; exact this⟩
theorem setRow_of {w w3 : World} {g : Nat} {row cur : Array Value} {t : TypeId} (hW : w.setRow g row = w3) (hg : w.heap[g]? = some (.cells cur t (0, 0))) :
    w3.heap[g]? = some (.cells row t (0, 0)) ∧ (∀ b, b ≠ g → w3.heap[b]? = w.heap[b]?) ∧ w3.heap.size = w.heap.size ∧ (∀ B, B ≤ g → Below B w w3) := by
  subst hW
  exact ⟨setRow_heap _ _ _ _ _ _ hg, fun b hb => setRow_other _ _ _ _ hb, by simp, fun B hB => below_setRow (Below.refl _ _) hB _⟩
theorem alloc_of {w w1 : World} {X : Obj} (hW : w.alloc X = w1) : w1.heap[w.heap.size]? = some X ∧ (∀ b, b < w.heap.size → w1.heap[b]? = w.heap[b]?) ∧ w1.heap.size = w.heap.size + 1 ∧ Below w.heap.size w w1 := by
  subst hW
  exact ⟨heap_alloc_new w _, fun b hb => heap_alloc_old w X hb, by simp, (Below.refl _ _).alloc (Nat.le_refl _) _⟩
def invCC (c : CC) : CC := if c.op = 1 then ⟨1, c.p, c.pos, c.n, c.o⟩ else if c.op = 2 then ⟨3, c.p, c.pos, c.n, c.o⟩ else if c.op = 3 then ⟨2, c.p, c.pos, c.n, c.o⟩ else c
theorem RdC.inv {w : World} {S : Nat → Prop} {c : CC} {x : Ch} (h : RdC w S c x) : RdC w S (invCC c) (invC x) := by
  have hop := h.op
  unfold invCC invC
  rw [hop]
  split
  · exact ⟨rfl, h.pos, (show I64 1 from ⟨by decide, by decide⟩), h.ipos, h.p, h.sp, h.n, h.o⟩
  split
  · exact ⟨rfl, h.pos, (show I64 3 from ⟨by decide, by decide⟩), h.ipos, h.p, h.sp, h.n, h.o⟩
  split
  · exact ⟨rfl, h.pos, (show I64 2 from ⟨by decide, by decide⟩), h.ipos, h.p, h.sp, h.n, h.o⟩
  · exact h
theorem moves_any (c : CC) (w : World) (b : Bool) (hb : b = decide (c.op = 2 ∨ c.op = 3)) :
    Calls Try.prog 13 #[aggC c] w fun e w' => e = .returned (.bool b) ∧ Below w.heap.size w w' := by
  have HR := Lib.hid hb
  clear hb
  have hb1 : ∀ x, Below w.heap.size w (w.alloc x) := fun x => (Below.refl _ _).alloc (Nat.le_refl _) _
  have HB1 := Lib.hid hb1; clear hb1
  obtain ⟨op, p, pos, o, n⟩ := c
  simp only [aggC] at HR ⊢
  by_cases h2 : op = 2
  · subst h2
    go_enter Try.func13, Try.ntmps13
    go_wp2_with fail
    go_ret
    exact ⟨rb (by rw [HR.out]; rfl), HB1.out _⟩
  · have hq : (op == 2) = false := by rw [beq_eq_false_iff_ne]; exact h2
    have HF : Hid (b = decide (op = 3)) := by unfold Hid; rw [HR.out, decide_eq_decide]; exact ⟨fun h => h.resolve_left h2, .inr⟩
    clear h2 HR
    go_enter Try.func13, Try.ntmps13
    go_wp2_with fail
    go_ret
    exact ⟨rb (by rw [HF.out, Bool.eq_iff_iff]; simp), HB1.out _⟩
/-- What inverting hands back. -/
def InPost (w : World) (xs : List Ch) (e : Ending) (w' : World) : Prop := ∃ v, e = .returned v ∧ RdL w' v (invL xs) ∧ Below w.heap.size w w'
theorem rev_at (xs : List Ch) (m : Nat) (h : m < xs.length) : xs.reverse.take (xs.length - m) = xs.reverse.take (xs.length - (m + 1)) ++ [xs[m]] := by
  rw [show xs.length - m = (xs.length - (m + 1)) + 1 by omega, List.take_succ_eq_append_getElem (by rw [List.length_reverse]; omega), List.getElem_reverse]
  have : xs.length - 1 - (xs.length - (m + 1)) = m := by omega
  simp only [this]
/-- The row o of one's own reads as the list l, whose elements were there before. -/
def OwnX (w0 w : World) (o : Value) (l : List Ch) : Prop :=
  ∃ cs : List CC, cs.length = l.length ∧ w.ownsRow w0.heap.size 36 29 o l.length (cs.flatMap CC.cells) ∧ ∀ i (h : i < l.length) (h' : i < cs.length), RdC w0 (fun _ => True) cs[i] l[i]
theorem OwnX.nil {w0 w : World} : OwnX w0 w (.slice none 0 0) [] := ⟨[], rfl, World.ownsRow_nil _ _ _ _, fun _ h => absurd h (Nat.not_lt_zero _)⟩
theorem OwnX.stays {w0 w w' : World} {o : Value} {l : List Ch} (h : OwnX w0 w o l) (hb : Below w.heap.size w w') : OwnX w0 w' o l := by
  obtain ⟨cs, h1, h2, h3⟩ := h
  exact ⟨cs, h1, own_below h2 hb, h3⟩
theorem OwnX.push {w0 w' : World} {o' : Value} {l : List Ch} {cs : List CC} {c : CC} {x : Ch} (hc : cs.length = l.length) (hrd : ∀ i (h : i < l.length) (h' : i < cs.length), RdC w0 (fun _ => True) cs[i] l[i]) (hx : RdC w0 (fun _ => True) c x)
    (hown : w'.ownsRow w0.heap.size 36 29 o' (l.length + 1) (cs.flatMap CC.cells ++ CC.cells c)) : OwnX w0 w' o' (l ++ [x]) := by
  refine ⟨cs ++ [c], by simp [hc], ?_, fun i hi hi' => ?_⟩
  · rw [List.length_append, List.flatMap_append]
    simpa using hown
  · rw [List.length_append] at hi hi'
    simp only [List.length_cons, List.length_nil] at hi hi'
    by_cases h : i < l.length
    · rw [List.getElem_append_left h, List.getElem_append_left (by omega)]
      exact hrd i h (by omega)
    · have : i = l.length := by omega
      subst this
      rw [List.getElem_append_right (by omega), List.getElem_append_right (by omega)]
      simp only [Nat.sub_self, hc, List.getElem_cons_zero]
      exact hx
theorem OwnX.rd {w0 w : World} {o : Value} {l : List Ch} (h : OwnX w0 w o l) (hb : Below w0.heap.size w0 w) (hl : l.length ≤ 140737488351232) : RdL w o l := by
  obtain ⟨cs, hc, hown, hrd⟩ := h
  refine ⟨fun i => cs.getD i ⟨0, .slice none 0 0, 0, ⟨⟨0, false, false, ⟨#[]⟩, 0, 0, 0, 0, 0, ⟨#[]⟩, []⟩, .slice none 0 0, .slice none 0 0, .slice none 0 0⟩, ⟨⟨0, false, false, ⟨#[]⟩, 0, 0, 0, 0, 0, ⟨#[]⟩, []⟩, .slice none 0 0, .slice none 0 0, .slice none 0 0⟩⟩, ?_, fun i hi => ?_⟩
  · rw [← hc]
    rw [← hc] at hown
    exact Sl.of_own CC.cells ccells_len cs hown (by omega) _ (fun i hi => by dsimp only; rw [List.getD_eq_getElem?_getD, List.getElem?_eq_getElem hi]; rfl)
  · have h1 : cs.getD i ⟨0, .slice none 0 0, 0, ⟨⟨0, false, false, ⟨#[]⟩, 0, 0, 0, 0, 0, ⟨#[]⟩, []⟩, .slice none 0 0, .slice none 0 0, .slice none 0 0⟩, ⟨⟨0, false, false, ⟨#[]⟩, 0, 0, 0, 0, 0, ⟨#[]⟩, []⟩, .slice none 0 0, .slice none 0 0, .slice none 0 0⟩⟩ = cs[i] := by rw [List.getD_eq_getElem?_getD, List.getElem?_eq_getElem (by omega)]; rfl
    dsimp only
    rw [h1]
    exact (hrd i hi (by omega)).stays hb
theorem RInvert_any (v : Value) (xs : List Ch) (w : World) (hn : xs.length ≤ 1000000) (hv : RdL w v xs) :
    Calls Try.prog 8 #[v] w (InPost w xs) := by
  obtain ⟨cc, ⟨a, cap, rfl, h1, ⟨h2, _⟩, h3, h4⟩, hc⟩ := hv
  have HA := Lib.hid h4
  have HC := Lib.hid hc
  clear h4 h3 hc
  go_enter Try.func8, Try.ntmps8
  go_wp2_with fail
  go_loopw [3, 4] (fun o iv wr => ∃ j : Nat, j ≤ xs.length ∧ iv = .int .i64 ((j : Int) - 1) ∧ OwnX w wr o ((xs.reverse.take (xs.length - j)).map invC) ∧ Below w.heap.size w wr) (fun _ iv _ => (intOf iv + 1).toNat)
  case atStart => exact ⟨xs.length, Nat.le_refl _, rfl, by rw [Nat.sub_self, List.take_zero]; exact OwnX.nil, Below.refl _ _⟩
  case round =>
    obtain ⟨j, hj, rfl, hown, hbw⟩ := hrel
    rcases j with _ | m
    case zero =>
      have HO : Hid (InPost w xs (.returned u3) wr) := by
        rw [Nat.sub_zero, List.take_of_length_le (by rw [List.length_reverse]; omega)] at hown
        exact ⟨_, rfl, hown.rd hbw (by rw [List.length_map, List.length_reverse]; omega), hbw⟩
      clear hown
      have e : ((0 : Nat) : Int) - 1 = -1 := rfl
      rw [e]
      clear e
      go_wp2_with fail
      go_ret
      exact HO.out
    case succ =>
    have e : ((m + 1 : Nat) : Int) - 1 = m := by omega
    rw [e]
    clear e
    have hlt : m < xs.length := by omega
    obtain ⟨g, o, rfl, hg, hat⟩ := HA.out (by omega)
    have HAT := Lib.hid (fun j hj => (hbw.cell hg).trans (hat m hlt j hj))
    have hrd0 := HC.out m hlt
    have hrd := hrd0.stays hbw
    have hone := ccells_one hrd
    have hoo := vcells_one hrd.o
    have hnn := vcells_one hrd.n
    have HI : Hid (∀ w', Below wr.heap.size wr w' → RdC w' (fun _ => True) (invCC (cc m)) (invC xs[m])) := fun w' hb => (hrd.stays hb).inv
    have HI0 := Lib.hid hrd0.inv
    have HREV := Lib.hid (rev_at xs m hlt)
    have HONE := Lib.hid hone
    have HOO := Lib.hid hoo
    have HNN := Lib.hid hnn
    have HOWN := Lib.hid hown
    have HBW := Lib.hid hbw
    have HKL : Hid (((xs.reverse.take (xs.length - (m + 1))).map invC).length < 100000000000) := by
      unfold Hid
      rw [List.length_map, List.length_take]
      omega
    clear hat hrd hrd0 hone hoo hnn hown hj hbw
    generalize cc m = c at *
    obtain ⟨op, p, pos, co, cn⟩ := c
    by_cases h1 : op = 1
    case pos =>
      subst h1
      have HI : Hid (∀ w', Below wr.heap.size wr w' → RdC w' (fun _ => True) ⟨1, p, pos, cn, co⟩ (invC xs[m])) := HI.out
      have HI0 : Hid (RdC w (fun _ => True) ⟨1, p, pos, cn, co⟩ (invC xs[m])) := HI0.out
      go_wp2_with (first
        | (at_builtin; obtain ⟨cs, hcl, hrow, hrds⟩ := HOWN.out.stays HB4.out; refine wp_push2 elemC rfl _ _ rfl hrow (CC.cells ⟨1, p, pos, cn, co⟩) (ccells_len _) (ccells_one ((HI.out _ HB4.out))) rfl rfl HKL.out (Nat.le_trans HBW.out.size HB4.out.size) ?_; intro v9 w9 hn9 hg9 hb9 hf9; have HP9 := Lib.hid (OwnX.push hcl hrds HI0.out hn9); have HB9 := Lib.hid ((HBW.out.trans (HB4.out.mono HBW.out.size)).trans hb9); clear hcl hrow hrds hn9 hg9 hb9 hf9)
        | (refine wpl_slice rfl rfl elemC rfl (cs := CC.cells ⟨1, p, pos, cn, co⟩) rfl (ccells_len _) (by decide) ?_)
        | refine wpl_load rfl rfl stC rfl (ccells_len _) (rowC HD4.out).2.1 ?_
        | (refine wpl_store rfl rfl stV.2 rfl rfl (cs := VC.cells co) rfl (cells_len _) HOO.out HD3.out (by rw [ccells_len]; decide) (row := CC.cells ⟨1, p, pos, cn, co⟩) rfl ?_; generalize hW4 : World.setRow _ _ _ = w4; obtain ⟨hd, hk, hz, hb⟩ := setRow_of hW4 HD3.out; have HD4 := Lib.hid hd; have HZ4 := Lib.hid (Nat.le_trans HZ3.out (Nat.le_of_eq hz.symm)); have HB4 := Lib.hid (HB3.out.trans (hb _ (by omega))); have HA4 := Lib.hid ((hk (wr.heap.size) (by omega)).trans HA3.out); try clear x0; have x0 := (rowC HA4.out).1; clear hW4 hd hk hz hb)
        | refine wpl_load rfl rfl stV rfl (cells_len _) (rowC HA3.out).2.2.1 ?_
        | (refine wpl_store rfl rfl stV.2 rfl rfl (cs := VC.cells cn) rfl (cells_len _) HNN.out HD2.out (by rw [ccells_len]; decide) (row := CC.cells ⟨1, p, pos, cn, cn⟩) rfl ?_; generalize hW3 : World.setRow _ _ _ = w3; obtain ⟨hd, hk, hz, hb⟩ := setRow_of hW3 HD2.out; have HD3 := Lib.hid hd; have HZ3 := Lib.hid (Nat.le_trans HZ2.out (Nat.le_of_eq hz.symm)); have HB3 := Lib.hid (HB2.out.trans (hb _ (by omega))); have HA3 := Lib.hid ((hk (wr.heap.size) (by omega)).trans HA2.out); try clear x0; have x0 := (rowC HA3.out).1; clear hW3 hd hk hz hb)
        | refine wpl_load rfl rfl stV rfl (cells_len _) (rowC HA2.out).2.2.2 ?_
        | refine wpl_load rfl rfl stC rfl (ccells_len _) HAT.out ?_
        | (refine wpl_new rfl rfl stC rfl (cs := CC.cells ⟨1, p, pos, co, cn⟩) rfl (ccells_len _) HONE.out rfl rfl rfl ?_; generalize hW1 : World.alloc wr _ = w1; obtain ⟨ha1, _, hz1, hb1⟩ := alloc_of hW1; have HA1 := Lib.hid ha1; have HB1 := Lib.hid hb1; clear hW1 ha1 hb1)
        | (refine wpl_new rfl rfl stC rfl (cs := CC.cells ⟨1, p, pos, co, cn⟩) rfl (ccells_len _) HONE.out hz1 rfl rfl ?_; generalize hW2 : World.alloc w1 _ = w2; obtain ⟨hd2, hk2, hz2, hb2⟩ := alloc_of hW2; rw [hz1] at hd2 hz2 hb2; have HD2 := Lib.hid hd2; have HA2 := Lib.hid ((hk2 wr.heap.size (by omega)).trans HA1.out); have HB2 := Lib.hid (HB1.out.trans (hb2.mono (by omega))); have x0 := (rowC HA2.out).1; have HZ2 := Lib.hid (Nat.le_of_eq hz2.symm); clear hW2 hd2 hk2 hz2 hb2 hz1)
        | refine wpl_load rfl rfl stC rfl (ccells_len _) (rowC HA1.out).2.1 ?_)
      exact ⟨⟨m, by omega, rfl, by rw [HREV.out, List.map_append]; exact HP9.out, HB9.out⟩, by simp [intOf]⟩
    case neg =>
    by_cases h2 : op = 2
    case pos =>
      subst h2
      have HI : Hid (∀ w', Below wr.heap.size wr w' → RdC w' (fun _ => True) ⟨3, p, pos, cn, co⟩ (invC xs[m])) := HI.out
      have HI0 : Hid (RdC w (fun _ => True) ⟨3, p, pos, cn, co⟩ (invC xs[m])) := HI0.out
      go_wp2_with (first
        | (at_builtin; obtain ⟨cs, hcl, hrow, hrds⟩ := HOWN.out.stays HB6.out; refine wp_push2 elemC rfl _ _ rfl hrow (CC.cells ⟨3, p, pos, cn, co⟩) (ccells_len _) (ccells_one ((HI.out _ HB6.out))) rfl rfl HKL.out (Nat.le_trans HBW.out.size HB6.out.size) ?_; intro v9 w9 hn9 hg9 hb9 hf9; have HP9 := Lib.hid (OwnX.push hcl hrds HI0.out hn9); have HB9 := Lib.hid ((HBW.out.trans (HB6.out.mono HBW.out.size)).trans hb9); clear hcl hrow hrds hn9 hg9 hb9 hf9)
        | (refine wpl_slice rfl rfl elemC rfl (cs := CC.cells ⟨3, p, pos, cn, co⟩) rfl (ccells_len _) (by decide) ?_)
        | refine wpl_load rfl rfl stC rfl (ccells_len _) (rowC HD6.out).2.1 ?_
        | (refine wpl_store rfl rfl stV.2 rfl rfl (cs := VC.cells co) rfl (cells_len _) HOO.out HD5.out (by rw [ccells_len]; decide) (row := CC.cells ⟨3, p, pos, cn, co⟩) rfl ?_; generalize hW6 : World.setRow _ _ _ = w6; obtain ⟨hd, hk, hz, hb⟩ := setRow_of hW6 HD5.out; have HD6 := Lib.hid hd; have HZ6 := Lib.hid (Nat.le_trans HZ5.out (Nat.le_of_eq hz.symm)); have HB6 := Lib.hid (HB5.out.trans (hb _ (by omega))); have HA6 := Lib.hid ((hk (wr.heap.size) (by omega)).trans HA5.out); try clear x0; have x0 := (rowC HA6.out).1; clear hW6 hd hk hz hb)
        | refine wpl_load rfl rfl stV rfl (cells_len _) (rowC HA5.out).2.2.1 ?_
        | (refine wpl_store rfl rfl stV.2 rfl rfl (cs := VC.cells cn) rfl (cells_len _) HNN.out HD4.out (by rw [ccells_len]; decide) (row := CC.cells ⟨3, p, pos, cn, cn⟩) rfl ?_; generalize hW5 : World.setRow _ _ _ = w5; obtain ⟨hd, hk, hz, hb⟩ := setRow_of hW5 HD4.out; have HD5 := Lib.hid hd; have HZ5 := Lib.hid (Nat.le_trans HZ4.out (Nat.le_of_eq hz.symm)); have HB5 := Lib.hid (HB4.out.trans (hb _ (by omega))); have HA5 := Lib.hid ((hk (wr.heap.size) (by omega)).trans HA4.out); try clear x0; have x0 := (rowC HA5.out).1; clear hW5 hd hk hz hb)
        | refine wpl_load rfl rfl stV rfl (cells_len _) (rowC HA4.out).2.2.2 ?_
        | refine wpl_loadG rfl stC rfl rfl (ccells_len _) (rowC HA3.out).2.1 ?_
        | (go_at_call 13; refine (moves_any ⟨2, p, pos, co, cn⟩ w3 true rfl).mono ?_; rintro e w4 ⟨rfl, hb⟩; have HZ4 := Lib.hid (Nat.le_trans HZ3.out hb.size); have HA4 := Lib.hid ((hb.block _ (by have := HZ3.out; omega)).trans HA3.out); have HD4 := Lib.hid ((hb.block _ (by have := HZ3.out; omega)).trans HD3.out); have HB4 := Lib.hid (HB3.out.trans (hb.mono HB3.out.size)); clear x0; have x0 := (rowC HA4.out).1; clear hb)
        | (refine wpl_store rfl rfl stI rfl rfl (cs := [.int .i64 3]) rfl rfl (by intro u hu; rw [List.mem_singleton] at hu; subst hu; rfl) HD2.out (by rw [ccells_len]; decide) (row := CC.cells ⟨3, p, pos, co, cn⟩) rfl ?_; generalize hW3 : World.setRow _ _ _ = w3; obtain ⟨hd, hk, hz, hb⟩ := setRow_of hW3 HD2.out; have HD3 := Lib.hid hd; have HZ3 := Lib.hid (Nat.le_trans HZ2.out (Nat.le_of_eq hz.symm)); have HB3 := Lib.hid (HB2.out.trans (hb _ (by omega))); have HA3 := Lib.hid ((hk (wr.heap.size) (by omega)).trans HA2.out); try clear x0; have x0 := (rowC HA3.out).1; clear hW3 hd hk hz hb)
        | refine wpl_load rfl rfl stC rfl (ccells_len _) HAT.out ?_
        | (refine wpl_new rfl rfl stC rfl (cs := CC.cells ⟨2, p, pos, co, cn⟩) rfl (ccells_len _) HONE.out rfl rfl rfl ?_; generalize hW1 : World.alloc wr _ = w1; obtain ⟨ha1, _, hz1, hb1⟩ := alloc_of hW1; have HA1 := Lib.hid ha1; have HB1 := Lib.hid hb1; clear hW1 ha1 hb1)
        | (refine wpl_new rfl rfl stC rfl (cs := CC.cells ⟨2, p, pos, co, cn⟩) rfl (ccells_len _) HONE.out hz1 rfl rfl ?_; generalize hW2 : World.alloc w1 _ = w2; obtain ⟨hd2, hk2, hz2, hb2⟩ := alloc_of hW2; rw [hz1] at hd2 hz2 hb2; have HD2 := Lib.hid hd2; have HA2 := Lib.hid ((hk2 wr.heap.size (by omega)).trans HA1.out); have HB2 := Lib.hid (HB1.out.trans (hb2.mono (by omega))); have x0 := (rowC HA2.out).1; have HZ2 := Lib.hid (Nat.le_of_eq hz2.symm); clear hW2 hd2 hk2 hz2 hb2 hz1)
        | refine wpl_load rfl rfl stC rfl (ccells_len _) (rowC HA1.out).2.1 ?_)
      exact ⟨⟨m, by omega, rfl, by rw [HREV.out, List.map_append]; exact HP9.out, HB9.out⟩, by simp [intOf]⟩
    case neg =>
    by_cases h3 : op = 3
    case pos =>
      subst h3
      have HI : Hid (∀ w', Below wr.heap.size wr w' → RdC w' (fun _ => True) ⟨2, p, pos, cn, co⟩ (invC xs[m])) := HI.out
      have HI0 : Hid (RdC w (fun _ => True) ⟨2, p, pos, cn, co⟩ (invC xs[m])) := HI0.out
      go_wp2_with (first
        | (at_builtin; obtain ⟨cs, hcl, hrow, hrds⟩ := HOWN.out.stays HB6.out; refine wp_push2 elemC rfl _ _ rfl hrow (CC.cells ⟨2, p, pos, cn, co⟩) (ccells_len _) (ccells_one ((HI.out _ HB6.out))) rfl rfl HKL.out (Nat.le_trans HBW.out.size HB6.out.size) ?_; intro v9 w9 hn9 hg9 hb9 hf9; have HP9 := Lib.hid (OwnX.push hcl hrds HI0.out hn9); have HB9 := Lib.hid ((HBW.out.trans (HB6.out.mono HBW.out.size)).trans hb9); clear hcl hrow hrds hn9 hg9 hb9 hf9)
        | (refine wpl_slice rfl rfl elemC rfl (cs := CC.cells ⟨2, p, pos, cn, co⟩) rfl (ccells_len _) (by decide) ?_)
        | refine wpl_load rfl rfl stC rfl (ccells_len _) (rowC HD6.out).2.1 ?_
        | (refine wpl_store rfl rfl stV.2 rfl rfl (cs := VC.cells co) rfl (cells_len _) HOO.out HD5.out (by rw [ccells_len]; decide) (row := CC.cells ⟨2, p, pos, cn, co⟩) rfl ?_; generalize hW6 : World.setRow _ _ _ = w6; obtain ⟨hd, hk, hz, hb⟩ := setRow_of hW6 HD5.out; have HD6 := Lib.hid hd; have HZ6 := Lib.hid (Nat.le_trans HZ5.out (Nat.le_of_eq hz.symm)); have HB6 := Lib.hid (HB5.out.trans (hb _ (by omega))); have HA6 := Lib.hid ((hk (wr.heap.size) (by omega)).trans HA5.out); try clear x0; have x0 := (rowC HA6.out).1; clear hW6 hd hk hz hb)
        | refine wpl_load rfl rfl stV rfl (cells_len _) (rowC HA5.out).2.2.1 ?_
        | (refine wpl_store rfl rfl stV.2 rfl rfl (cs := VC.cells cn) rfl (cells_len _) HNN.out HD4.out (by rw [ccells_len]; decide) (row := CC.cells ⟨2, p, pos, cn, cn⟩) rfl ?_; generalize hW5 : World.setRow _ _ _ = w5; obtain ⟨hd, hk, hz, hb⟩ := setRow_of hW5 HD4.out; have HD5 := Lib.hid hd; have HZ5 := Lib.hid (Nat.le_trans HZ4.out (Nat.le_of_eq hz.symm)); have HB5 := Lib.hid (HB4.out.trans (hb _ (by omega))); have HA5 := Lib.hid ((hk (wr.heap.size) (by omega)).trans HA4.out); try clear x0; have x0 := (rowC HA5.out).1; clear hW5 hd hk hz hb)
        | refine wpl_load rfl rfl stV rfl (cells_len _) (rowC HA4.out).2.2.2 ?_
        | refine wpl_loadG rfl stC rfl rfl (ccells_len _) (rowC HA3.out).2.1 ?_
        | (go_at_call 13; refine (moves_any ⟨3, p, pos, co, cn⟩ w3 true rfl).mono ?_; rintro e w4 ⟨rfl, hb⟩; have HZ4 := Lib.hid (Nat.le_trans HZ3.out hb.size); have HA4 := Lib.hid ((hb.block _ (by have := HZ3.out; omega)).trans HA3.out); have HD4 := Lib.hid ((hb.block _ (by have := HZ3.out; omega)).trans HD3.out); have HB4 := Lib.hid (HB3.out.trans (hb.mono HB3.out.size)); clear x0; have x0 := (rowC HA4.out).1; clear hb)
        | (refine wpl_store rfl rfl stI rfl rfl (cs := [.int .i64 2]) rfl rfl (by intro u hu; rw [List.mem_singleton] at hu; subst hu; rfl) HD2.out (by rw [ccells_len]; decide) (row := CC.cells ⟨2, p, pos, co, cn⟩) rfl ?_; generalize hW3 : World.setRow _ _ _ = w3; obtain ⟨hd, hk, hz, hb⟩ := setRow_of hW3 HD2.out; have HD3 := Lib.hid hd; have HZ3 := Lib.hid (Nat.le_trans HZ2.out (Nat.le_of_eq hz.symm)); have HB3 := Lib.hid (HB2.out.trans (hb _ (by omega))); have HA3 := Lib.hid ((hk (wr.heap.size) (by omega)).trans HA2.out); try clear x0; have x0 := (rowC HA3.out).1; clear hW3 hd hk hz hb)
        | refine wpl_load rfl rfl stC rfl (ccells_len _) HAT.out ?_
        | (refine wpl_new rfl rfl stC rfl (cs := CC.cells ⟨3, p, pos, co, cn⟩) rfl (ccells_len _) HONE.out rfl rfl rfl ?_; generalize hW1 : World.alloc wr _ = w1; obtain ⟨ha1, _, hz1, hb1⟩ := alloc_of hW1; have HA1 := Lib.hid ha1; have HB1 := Lib.hid hb1; clear hW1 ha1 hb1)
        | (refine wpl_new rfl rfl stC rfl (cs := CC.cells ⟨3, p, pos, co, cn⟩) rfl (ccells_len _) HONE.out hz1 rfl rfl ?_; generalize hW2 : World.alloc w1 _ = w2; obtain ⟨hd2, hk2, hz2, hb2⟩ := alloc_of hW2; rw [hz1] at hd2 hz2 hb2; have HD2 := Lib.hid hd2; have HA2 := Lib.hid ((hk2 wr.heap.size (by omega)).trans HA1.out); have HB2 := Lib.hid (HB1.out.trans (hb2.mono (by omega))); have x0 := (rowC HA2.out).1; have HZ2 := Lib.hid (Nat.le_of_eq hz2.symm); clear hW2 hd2 hk2 hz2 hb2 hz1)
        | refine wpl_load rfl rfl stC rfl (ccells_len _) (rowC HA1.out).2.1 ?_)
      exact ⟨⟨m, by omega, rfl, by rw [HREV.out, List.map_append]; exact HP9.out, HB9.out⟩, by simp [intOf]⟩
    case neg =>
    have e1 : (op == 1) = false := by rw [beq_eq_false_iff_ne]; exact h1
    have e2 : (op == 2) = false := by rw [beq_eq_false_iff_ne]; exact h2
    have e3 : (op == 3) = false := by rw [beq_eq_false_iff_ne]; exact h3
    have e4 : false = decide (op = 2 ∨ op = 3) := (decide_eq_false (by omega)).symm
    have hinv : invCC ⟨op, p, pos, co, cn⟩ = ⟨op, p, pos, co, cn⟩ := by unfold invCC; rw [if_neg h1, if_neg h2, if_neg h3]
    rw [hinv] at HI HI0
    have HE4 := Lib.hid e4
    clear h1 h2 h3 hinv e4
    go_wp2_with (first
      | (at_builtin; obtain ⟨cs, hcl, hrow, hrds⟩ := HOWN.out.stays HB3.out; refine wp_push2 elemC rfl _ _ rfl hrow (CC.cells ⟨op, p, pos, co, cn⟩) (ccells_len _) (ccells_one ((HI.out _ HB3.out))) rfl rfl HKL.out (Nat.le_trans HBW.out.size HB3.out.size) ?_; intro v9 w9 hn9 hg9 hb9 hf9; have HP9 := Lib.hid (OwnX.push hcl hrds HI0.out hn9); have HB9 := Lib.hid ((HBW.out.trans (HB3.out.mono HBW.out.size)).trans hb9); clear hcl hrow hrds hn9 hg9 hb9 hf9)
      | (refine wpl_slice rfl rfl elemC rfl (cs := CC.cells ⟨op, p, pos, co, cn⟩) rfl (ccells_len _) (by decide) ?_)
      | refine wpl_load rfl rfl stC rfl (ccells_len _) (rowC HD3.out).2.1 ?_
      | refine wpl_loadG rfl stC rfl rfl (ccells_len _) (rowC HA2.out).2.1 ?_
      | (go_at_call 13; refine (moves_any ⟨op, p, pos, co, cn⟩ w2 false HE4.out).mono ?_; rintro e w3 ⟨rfl, hb⟩; have HZ3 := Lib.hid (Nat.le_trans HZ2.out hb.size); have HA3 := Lib.hid ((hb.block _ (by have := HZ2.out; omega)).trans HA2.out); have HD3 := Lib.hid ((hb.block _ (by have := HZ2.out; omega)).trans HD2.out); have HB3 := Lib.hid (HB2.out.trans (hb.mono HB2.out.size)); clear x0; have x0 := (rowC HA3.out).1; clear hb)
      | refine wpl_load rfl rfl stC rfl (ccells_len _) HAT.out ?_
      | (refine wpl_new rfl rfl stC rfl (cs := CC.cells ⟨op, p, pos, co, cn⟩) rfl (ccells_len _) HONE.out rfl rfl rfl ?_; generalize hW1 : World.alloc wr _ = w1; obtain ⟨ha1, _, hz1, hb1⟩ := alloc_of hW1; have HA1 := Lib.hid ha1; have HB1 := Lib.hid hb1; clear hW1 ha1 hb1)
      | (refine wpl_new rfl rfl stC rfl (cs := CC.cells ⟨op, p, pos, co, cn⟩) rfl (ccells_len _) HONE.out hz1 rfl rfl ?_; generalize hW2 : World.alloc w1 _ = w2; obtain ⟨hd2, hk2, hz2, hb2⟩ := alloc_of hW2; rw [hz1] at hd2 hz2 hb2; have HD2 := Lib.hid hd2; have HA2 := Lib.hid ((hk2 wr.heap.size (by omega)).trans HA1.out); have HB2 := Lib.hid (HB1.out.trans (hb2.mono (by omega))); have x0 := (rowC HA2.out).1; have HZ2 := Lib.hid (Nat.le_of_eq hz2.symm); clear hW2 hd2 hk2 hz2 hb2 hz1)
      | refine wpl_load rfl rfl stC rfl (ccells_len _) (rowC HA1.out).2.1 ?_)
    exact ⟨⟨m, by omega, rfl, by rw [HREV.out, List.map_append]; exact HP9.out, HB9.out⟩, by simp [intOf]⟩
end Go.Proofs.Ythdninnjjmhpfaa

