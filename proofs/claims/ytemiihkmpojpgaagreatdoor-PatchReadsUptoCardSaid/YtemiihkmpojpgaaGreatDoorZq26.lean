/- datakitref56.written walked. Conditions: the operator is one of the four; a valid path. -/
import Derived.Test.YtemiihkmpojpgaaGreatDoorZq25
import Derived.Test.YtemiihkmpojpgaaGreatDoorZq23
import Derived.Test.YtemiihkmpojpgaaGreatDoorZq21
import Derived.Test.YtemiihkmpojpgaaGreatDoorZq20
import Derived.Deep.QuietTactic
import Derived.BigQuiet
import Derived.Test.YtemiihkmpojpgaaGreatDoorZq22
import Derived.Test.YtemiihkmpojpgaaGreatDoorZq17
namespace Go.Proofs.YtemiihkmpojpgaaGreatDoor
open Go.RowKit
set_option maxHeartbeats 8000000
set_option maxRecDepth 100000

abbrev c00 : CC := ⟨0, .slice none 0 0, 0, c0F, c0F⟩
theorem drewNB (w : World) (n : Nat) : Below w.heap.size w (w.drewN n) := ⟨rfl, rfl, rfl, Nat.le_refl _, fun _ _ => rfl⟩
theorem name_q (op : Int) (w : World) : Calls Tryz.prog 17 #[.int .i64 op] w fun e w' => e = .returned (.string (nameS op)) ∧ w' = w := (name_any op w).mono fun _ _ h => ⟨h.1, h.2.symm⟩
/-- The function's own boxes: the value, the result, the change under way. -/
structure RW (w w' : World) (cv : VC) (cc : CC) : Prop where
  b : Below w.heap.size w w'
  x1 : w'.heap[w.heap.size]? = some (.cells (VC.cells cv).toArray 30 (0, 0))
  x2 : w'.heap[w.heap.size + 1]? = some (.cells (CC.cells c00).toArray 46 (0, 0))
  x4 : w'.heap[w.heap.size + 1 + 1]? = some (.cells (CC.cells cc).toArray 46 (0, 0))
  z : w.heap.size + 3 ≤ w'.heap.size
theorem RW.below {w w' w2 : World} {cv : VC} {cc : CC} (h : RW w w' cv cc) (hb : Below w'.heap.size w' w2) : RW w w2 cv cc :=
  ⟨h.b.trans (hb.mono h.b.size), (hb.block _ (by have := h.z; omega)).trans h.x1, (hb.block _ (by have := h.z; omega)).trans h.x2, (hb.block _ (by have := h.z; omega)).trans h.x4, Nat.le_trans h.z hb.size⟩
theorem RW.set {w w' w2 : World} {cv : VC} {cc c2 : CC} (h : RW w w' cv cc) (hW : w'.setRow (w.heap.size + 1 + 1) (CC.cells c2).toArray = w2) : RW w w2 cv c2 ∧ (∀ b, b ≠ w.heap.size + 1 + 1 → w2.heap[b]? = w'.heap[b]?) ∧ w2.heap.size = w'.heap.size := by
  obtain ⟨h1, h2, h3, h4⟩ := setRow_of hW h.x4
  exact ⟨⟨h.b.trans (h4 _ (by omega)), (h2 _ (by omega)).trans h.x1, (h2 _ (by omega)).trans h.x2, h1, by have := h.z; omega⟩, h2, h3⟩
/-- Another box of the call's own is stored into. -/
theorem RW.far {w w' w2 : World} {cv : VC} {cc : CC} {g : Nat} (h : RW w w' cv cc) (hg : w'.grownBy w2 (some g)) (h3 : w.heap.size + 3 ≤ g) : RW w w2 cv cc :=
  ⟨⟨hg.os.trans h.b.os, hg.tape.trans h.b.tape, hg.output.trans h.b.output, Nat.le_trans h.b.size hg.size, fun b hb => (hg.block b (by have := h.z; omega) (fun he => by cases he; omega)).trans (h.b.block b hb)⟩, (hg.block _ (by have := h.z; omega) (fun he => by cases he; omega)).trans h.x1, (hg.block _ (by have := h.z; omega) (fun he => by cases he; omega)).trans h.x2, (hg.block _ (by have := h.z; omega) (fun he => by cases he; omega)).trans h.x4, Nat.le_trans h.z hg.size⟩
/-- What read hands back. -/
def ReadPost (w : World) (x : Ch × Nat) (e : Ending) (w' : World) : Prop := ∃ c, e = .returned (.tuple #[aggC c, .int .i64 (x.2 : Nat)]) ∧ (∀ u ∈ c.cells, u.oneCell' = true) ∧ (x.2 = 0 → RdC w' (fun b => w.heap.size ≤ b) c x.1) ∧ Below w.heap.size w w'
theorem one_cc {c : CC} (ho : ∀ u ∈ c.o.cells, u.oneCell' = true) (hn : ∀ u ∈ c.n.cells, u.oneCell' = true) (hp : c.p.oneCell' = true) : ∀ u ∈ c.cells, u.oneCell' = true := by
  intro u hu
  unfold CC.cells at hu
  rcases List.mem_cons.1 hu with rfl | hu
  · rfl
  rcases List.mem_cons.1 hu with rfl | hu
  · exact hp
  rcases List.mem_cons.1 hu with rfl | hu
  · rfl
  rcases List.mem_append.1 hu with hu | hu
  · exact ho u hu
  · exact hn u hu
theorem one_c0 : ∀ u ∈ c0F.cells, u.oneCell' = true := vc_one (v0_rdF (default : World) (fun _ => True))
theorem fl_len {w : World} {S : Nat → Prop} {c : VC} {v : V} (h : RdI w S c v) : ∃ a m, c.f = .slice a (flV v).length m ∧ (flV v).length ≤ 140737488351232 := by
  cases h with
  | mk h l f bv lv fv lc fc ok hb hl hL hf hK hF sb sl sf =>
    obtain ⟨a, m, h1, -, h2, -⟩ := hf
    exact ⟨a, m, h1, h2.1⟩
theorem rd_head {w : World} {S : Nat → Prop} {c : VC} {v : V} (h : RdI w S c v) : c.h = hdV v := by
  cases h; rfl
theorem rd_ok {w : World} {S : Nat → Prop} {c : VC} {v : V} (h : RdI w S c v) : HdOk c.h := by
  cases h; assumption
theorem stP : (Tryz.prog.info? 44).map (·.size) = some 1 := by kernel_rfl
/-- The boxes, the path, and how many fields are left. -/
structure RT (w w' : World) (cv : VC) (cc : CC) (pv : Value) (pl : List St) (gl : Nat) (n : Int) : Prop where
  rw : RW w w' cv cc
  rp : Rd w' pv pl
  bp : BlkIn (fun b => w.heap.size + 3 ≤ b ∧ b < gl) pv
  l : w'.heap[gl]? = some (.cells #[.int .i64 n] 3 (0, 0))
  g : w.heap.size + 3 ≤ gl
theorem RT.below {w w' w2 : World} {cv : VC} {cc : CC} {pv : Value} {pl : List St} {gl : Nat} {n : Int} (h : RT w w' cv cc pv pl gl n) (hb : Below w'.heap.size w' w2) : RT w w2 cv cc pv pl gl n :=
  ⟨h.rw.below hb, h.rp.below hb, h.bp, (hb.block gl (Array.getElem?_eq_some_iff.1 h.l).1).trans h.l, h.g⟩
theorem RT.take {w w' w2 : World} {cv : VC} {cc : CC} {pv : Value} {pl : List St} {gl : Nat} {n n2 : Int} (h : RT w w' cv cc pv pl gl n) (hg : w'.grownBy w2 (some gl)) (hl : w2.heap[gl]? = some (.cells #[.int .i64 n2] 3 (0, 0))) : RT w w2 cv cc pv pl gl n2 :=
  ⟨h.rw.far hg h.g, h.rp.kept h.bp (fun b hb hb' => hg.block b hb' (fun he => by cases he; omega)) hg.size, h.bp, hl, h.g⟩
theorem RT.rdc {w w' : World} {cv : VC} {op : Int} {pv : Value} {pl : List St} {gl : Nat} {n : Int} (h : RT w w' cv ⟨op, pv, 0, c0F, c0F⟩ pv pl gl n) (h0 : 0 ≤ op ∧ op ≤ 4) : RdC w' (fun _ => True) ⟨op, pv, 0, c0F, c0F⟩ ⟨op, pl, 0, v0, v0⟩ :=
  ⟨rfl, rfl, ⟨by show _ ≤ op; omega, by show op ≤ _; omega⟩, i64_0, h.rp, h.bp.mono fun _ _ => trivial, v0_rdF _ _, v0_rdF _ _⟩
theorem b1_le (b : Bool) : b1 b ≤ 1 := by cases b <;> decide
/-- The three further fields, each in a box. -/
structure ST3 (w w' : World) (cv : VC) (cc : CC) (pv : Value) (pl : List St) (gl : Nat) (n : Int) (g13 g15 g17 : Nat) (c13 c15 c17 : VC) (x13 x15 x17 : V) : Prop where
  t : RT w w' cv cc pv pl gl n
  b13 : w'.heap[g13]? = some (.cells (VC.cells c13).toArray 30 (0, 0))
  b15 : w'.heap[g15]? = some (.cells (VC.cells c15).toArray 30 (0, 0))
  b17 : w'.heap[g17]? = some (.cells (VC.cells c17).toArray 30 (0, 0))
  r13 : RdI w' (fun b => gl < b) c13 x13
  r15 : RdI w' (fun b => gl < b) c15 x15
  r17 : RdI w' (fun b => gl < b) c17 x17
  g13 : gl < g13
  g15 : gl < g15
  g17 : gl < g17
theorem ST3.below {w w' w2 : World} {cv : VC} {cc : CC} {pv : Value} {pl : List St} {gl : Nat} {n : Int} {g13 g15 g17 : Nat} {c13 c15 c17 : VC} {x13 x15 x17 : V} (h : ST3 w w' cv cc pv pl gl n g13 g15 g17 c13 c15 c17 x13 x15 x17) (hb : Below w'.heap.size w' w2) : ST3 w w2 cv cc pv pl gl n g13 g15 g17 c13 c15 c17 x13 x15 x17 :=
  ⟨h.t.below hb, (hb.block _ (Array.getElem?_eq_some_iff.1 h.b13).1).trans h.b13, (hb.block _ (Array.getElem?_eq_some_iff.1 h.b15).1).trans h.b15, (hb.block _ (Array.getElem?_eq_some_iff.1 h.b17).1).trans h.b17, h.r13.stays hb, h.r15.stays hb, h.r17.stays hb, h.g13, h.g15, h.g17⟩
/-- A box of the call's own, and what it holds, stay. -/
theorem box_take {w w2 : World} {gl g : Nat} {X : Obj} (hg : w.grownBy w2 (some gl)) (h : w.heap[g]? = some X) (hne : gl < g) : w2.heap[g]? = some X :=
  (hg.block g (Array.getElem?_eq_some_iff.1 h).1 (fun he => by cases he; omega)).trans h
theorem rd_take {w w2 : World} {gl : Nat} {c : VC} {x : V} (hg : w.grownBy w2 (some gl)) (h : RdI w (fun b => gl < b) c x) : RdI w2 (fun b => gl < b) c x :=
  h.kept (fun b hb hb' => hg.block b hb' (fun he => by cases he; omega)) hg.size
theorem fl_nod (v : V) : (flV v).length ≤ nodV v := by
  cases v with
  | mk h l f => have := nodF_len f; rw [nodV_mk]; show f.length ≤ _; omega
theorem BlkIn.lt' {w : World} {v : Value} {l : List St} {S : Nat → Prop} (h : BlkIn S v) (hr : Rd w v l) : BlkIn (fun b => S b ∧ b < w.heap.size) v := by
  intro g o p n cap hv hn
  refine ⟨h g o p n cap hv hn, ?_⟩
  obtain ⟨a, cap', rfl, h1, h2, h0, h3⟩ := hr
  simp only [Value.slice.injEq] at hv
  obtain ⟨rfl, rfl, rfl⟩ := hv
  obtain ⟨g', o', ha, hg, -⟩ := h3 (by intro hl; rw [hl] at hn; exact absurd hn (Nat.lt_irrefl _))
  simp only [Option.some.injEq, Addr.mk.injEq] at ha
  rw [ha.1]
  exact hg
theorem ST3.set {w w' w2 : World} {cv : VC} {cc c2 : CC} {pv : Value} {pl : List St} {gl : Nat} {n : Int} {g13 g15 g17 : Nat} {c13 c15 c17 : VC} {x13 x15 x17 : V} (h : ST3 w w' cv cc pv pl gl n g13 g15 g17 c13 c15 c17 x13 x15 x17) (hW : w'.setRow (w.heap.size + 1 + 1) (CC.cells c2).toArray = w2) : ST3 w w2 cv c2 pv pl gl n g13 g15 g17 c13 c15 c17 x13 x15 x17 := by
  obtain ⟨h1, h2, h3⟩ := h.t.rw.set hW
  have hg := h.t.g
  have a := h.g13
  have b := h.g15
  have c := h.g17
  exact ⟨⟨h1, h.t.rp.kept h.t.bp (fun b hb _ => h2 b (by omega)) (by omega), h.t.bp, (h2 _ (by omega)).trans h.t.l, hg⟩, (h2 _ (by omega)).trans h.b13, (h2 _ (by omega)).trans h.b15, (h2 _ (by omega)).trans h.b17, h.r13.kept (fun b hb _ => h2 b (by omega)) (by omega), h.r15.kept (fun b hb _ => h2 b (by omega)) (by omega), h.r17.kept (fun b hb _ => h2 b (by omega)) (by omega), a, b, c⟩
theorem fieldF_small (key : ByteArray) : ∀ (f : List (ByteArray × V)), nodV ((fieldF key f).getD v0) ≤ 1 + nodF f ∧ depV ((fieldF key f).getD v0) ≤ 1 + depF f
  | [] => by
    have h1 : nodV v0 = 1 := by rw [v0, nodV_mk, nodL, nodF]
    have h2 : depV v0 = 1 := by rw [v0, depV_mk, depL, depF]; rfl
    show nodV v0 ≤ _ ∧ depV v0 ≤ _
    omega
  | (k, x) :: t => by
    have ih := fieldF_small key t
    rw [fieldF, nodF, depF]
    split
    · simp only [Option.getD_some]
      omega
    · omega
theorem fd_small (key : ByteArray) (v : V) (hn : nodV v ≤ 1000000) (hd : depV v ≤ 65536) : nodV ((fieldF key (flV v)).getD v0) ≤ 1000000 ∧ depV ((fieldF key (flV v)).getD v0) ≤ 65536 := by
  cases v with
  | mk h l f =>
    have := fieldF_small key f
    rw [nodV_mk] at hn
    rw [depV_mk] at hd
    show nodV ((fieldF key f).getD v0) ≤ _ ∧ depV ((fieldF key f).getD v0) ≤ _
    omega
theorem numV_bd (v : V) : -1 ≤ numV v ∧ numV v ≤ 65536 := by
  unfold numV numI
  split
  · unfold numD
    split
    · rename_i h
      split at h
      · rename_i hh
        cases h
        have := hh.2.2.2
        omega
      · cases h
    · omega
  · omega
theorem PRead1_any (v : V) (c : VC) (w : World) (hn : nodV v ≤ 1000000) (hd : depV v ≤ 60000) (hv : RdV w c v) (he : Env w)
    (hat : ∀ x, fieldF kAt (flV v) = some x → decB (hdV x).neg (L (hdV x).ds) (hdV x).exp = true ∧ (hdV x).ds.size ≤ 120 ∧ (hdV x).exp ≤ 400 ∧ -400 ≤ (hdV x).exp) :
    Calls Tryz.prog 11 #[aggV c] w (ReadPost w (readC v)) := by
  have hkc : c.h = hdV v := by cases hv; rfl
  have hfl : c.f = c.f := rfl
  have HONEv := Lib.hid (vc_one hv)
  have HV := Lib.hid hv
  have HE := Lib.hid he
  have HAT := Lib.hid hat
  obtain ⟨r, hr⟩ : ∃ r, r = readC v := ⟨_, rfl⟩
  rw [← hr]
  unfold readC at hr
  rw [← hkc] at hr
  have HR := Lib.hid hr
  have HL3 := Lib.hid (fl_len hv)
  obtain ⟨h0, q1, q2, q3, n1, n2, n3, m1, m2, m3, hcf⟩ := hv.forms
  clear hv he hat hr hkc hfl
  subst hcf
  dsimp only at HR
  obtain ⟨a0, a1, a2, a3, a4, a5, a6, a7, a8, a9, a10⟩ := h0
  dsimp only at HR
  go_enter Tryz.func11, Tryz.ntmps11
  go_upto_region 2 with fail
  generalize hW1 : World.alloc w _ = w1
  obtain ⟨ha1, -, hz1, hb1⟩ := alloc_of hW1
  generalize hW2 : World.alloc w1 _ = w2
  obtain ⟨ha2, -, hz2, hb2⟩ := alloc_of hW2
  generalize hW3 : World.alloc w2 _ = w3
  obtain ⟨ha3, -, hz3, hb3⟩ := alloc_of hW3
  have hrw : RW w w3 ⟨⟨a0, a1, a2, a3, a4, a5, a6, a7, a8, a9, a10⟩, .slice q1 n1 m1, .slice q2 n2 m2, .slice q3 n3 m3⟩ c00 :=
    ⟨(hb1.trans (hb2.mono (by omega))).trans (hb3.mono (by omega)), (hb3.block _ (by omega)).trans ((hb2.block _ (by omega)).trans ha1), (hb3.block _ (by omega)).trans (by rw [← hz1]; exact ha2), by rw [show w.heap.size + 1 + 1 = w2.heap.size by omega]; exact ha3, by omega⟩
  have HRW := Lib.hid hrw
  clear hW1 hW2 hW3 ha1 ha2 ha3 hb1 hb2 hb3 hz1 hz2 hz3
  obtain ⟨⟨x0, -, -, -, -, -, -, -, -, -, -, -, -⟩, -⟩ := box13 HRW.out.x1
  by_cases hk7 : a0 = 7
  case neg =>
    have HF : Hid (r = (ch0, 6)) := by unfold Hid; rw [HR.out, if_pos hk7]
    have hq : (a0 != 7) = true := by rw [bne_iff_ne]; exact hk7
    have HONEcc : Hid (∀ u ∈ c00.cells, u.oneCell' = true) := one_cc one_c0 one_c0 rfl
    clear HR hk7 HAT HV HE HONEv
    have HC29 : Hid (∀ j, j < 29 → w3.cell? ⟨w.heap.size + 1 + 1, 0 + j, none⟩ = (CC.cells c00)[j]?) := (rowC5 HRW.out.x4).2.2.2.1
    have HX2 := Lib.hid HRW.out.x2
    have HBW := Lib.hid HRW.out.b
    go_wp2_with (first
      | refine wpl_load rfl rfl stC rfl (ccells_len _) HC29.out ?_
      | (refine wpl_store rfl rfl stC.2 rfl rfl (cs := CC.cells c00) rfl (ccells_len _) HONEcc.out HX2.out (Nat.le_refl 29) (row := CC.cells c00) (by rw [List.take_zero, List.nil_append, List.drop_of_length_le (by decide), List.append_nil]) ?_; generalize hW9 : World.setRow _ _ _ = w9; obtain ⟨hd9, hk9, hz9, hb9⟩ := setRow_of hW9 HX2.out; clear hW9))
    refine bodyPost_ret (results_two rfl _ _ (w.heap.size + 1) _ _ _ _ _ rfl rfl hd9 Tryz.underlying46 rfl (by kernel_rfl)) rfl ⟨_, by rw [HF.out]; rfl, HONEcc.out, (fun h => by rw [HF.out] at h; exact absurd h (by decide)), HBW.out.trans (hb9 _ (by omega))⟩
  subst hk7
  have HFD := Lib.hid (fun key w' (hb : Below w.heap.size w w') => VField_any key v _ w' hn (by omega) (HV.out.stays hb) rfl)
  have HKIND : Hid ((if (7 : Int) ≠ 7 then (ch0, 6) else if opF (flV v) = 0 then (ch0, 3) else match pathF (flV v) with
    | none => (ch0, 3)
    | some t => if (parseL (L t)).2 ≠ 0 then (ch0, (parseL (L t)).2)
      else if fitF (flV v) (opF (flV v)) (parseL (L t)).1 = false then (ch0, 3)
      else if movB (opF (flV v)) = true ∧ (parseL (L t)).1 = [] then (ch0, 1)
      else (changeOf (flV v) (opF (flV v)) (parseL (L t)).1, 0)) = r) := HR.out.symm
  clear HR
  have HR : Hid (r = if opF (flV v) = 0 then (ch0, 3) else match pathF (flV v) with
    | none => (ch0, 3)
    | some t => if (parseL (L t)).2 ≠ 0 then (ch0, (parseL (L t)).2)
      else if fitF (flV v) (opF (flV v)) (parseL (L t)).1 = false then (ch0, 3)
      else if movB (opF (flV v)) = true ∧ (parseL (L t)).1 = [] then (ch0, 1)
      else (changeOf (flV v) (opF (flV v)) (parseL (L t)).1, 0)) := by unfold Hid; rw [← HKIND.out, if_neg (by decide)]
  clear HKIND
  have HC13 : Hid (∀ w', RW w w' ⟨⟨7, a1, a2, a3, a4, a5, a6, a7, a8, a9, a10⟩, .slice q1 n1 m1, .slice q2 n2 m2, .slice q3 n3 m3⟩ c00 → ∀ j, j < 13 → w'.cell? ⟨w.heap.size, 0 + j, none⟩ = (VC.cells ⟨⟨7, a1, a2, a3, a4, a5, a6, a7, a8, a9, a10⟩, .slice q1 n1 m1, .slice q2 n2 m2, .slice q3 n3 m3⟩)[j]?) := fun w' h => rowV h.x1
  go_upto_region 4 with fail
  clear x0
  have HC3 := Lib.hid (HC13.out _ HRW.out)
  go_wp2_with (refine wpl_load rfl rfl stVk rfl (cells_len _) HC3.out ?_)
  refine (HFD.out kOp _ HRW.out.b).mono ?_
  rintro e w4 ⟨c5, rfl, hr5, hb4⟩
  have HR5 : Hid (c5.h = hdV ((fieldF kOp (flV v)).getD v0)) := rd_head hr5
  have HONE5 := Lib.hid (vc_one hr5.any)
  have HRW4 := Lib.hid (HRW.out.below hb4)
  clear hr5 hb4 HRW HC3
  go_upto_region 5 with (refine wpl_new rfl rfl stVk rfl (cs := VC.cells c5) rfl (cells_len _) HONE5.out rfl rfl rfl ?_; generalize hW1 : World.alloc w4 _ = w5; obtain ⟨ha5, -, hz5, hb5⟩ := alloc_of' hW1; have HA5 := Lib.hid ha5; have HRW5 := Lib.hid (HRW4.out.below hb5); have HZ5 := Lib.hid hz5; clear hW1 ha5 hb5 hz5)
  have HG5 : Hid (w.heap.size + 3 ≤ w4.heap.size) := HRW4.out.z
  generalize w4.heap.size = g5 at *
  clear HRW4
  have HC5 := Lib.hid (HC13.out _ HRW5.out)
  go_wp2_with (refine wpl_load rfl rfl stVk rfl (cells_len _) HC5.out ?_)
  refine (HFD.out kPath _ HRW5.out.b).mono ?_
  rintro e w6 ⟨c7, rfl, hr7, hb6⟩
  have HR7 : Hid (c7.h = hdV ((fieldF kPath (flV v)).getD v0)) := rd_head hr7
  have HOK7 := Lib.hid hr7
  have HONE7 := Lib.hid (vc_one hr7.any)
  have HRW6 := Lib.hid (HRW5.out.below hb6)
  have HA6 := Lib.hid ((hb6.block g5 (by rw [HZ5.out]; omega)).trans HA5.out)
  have HZ6 : Hid (g5 < w6.heap.size) := by unfold Hid; have := hb6.size; have := HZ5.out; omega
  clear hr7 hb6 HC5 HRW5 HA5 HZ5
  go_upto_region 6 with (refine wpl_new rfl rfl stVk rfl (cs := VC.cells c7) rfl (cells_len _) HONE7.out rfl rfl rfl ?_; generalize hW1 : World.alloc w6 _ = w7; obtain ⟨ha7, -, hz7, hb7⟩ := alloc_of' hW1; have HB7 := Lib.hid ha7; have HRW7 := Lib.hid (HRW6.out.below hb7); have HA7 := Lib.hid ((hb7.block g5 HZ6.out).trans HA6.out); have HZ7 := Lib.hid hz7; clear hW1 ha7 hb7 hz7)
  have HG7 : Hid (g5 < w6.heap.size) := HZ6.out
  generalize w6.heap.size = g7 at *
  clear HRW6 HA6 HZ6
  obtain ⟨on, hon⟩ : ∃ on : Nat → Int, on = fun j => if c5.h.kind = 4 then opS c5.h.text j else 0 := ⟨_, rfl⟩
  have HON := Lib.hid hon
  have HO0 : Hid (on 0 = 0) := by unfold Hid; rw [hon]; simp [opS]
  have HBD : Hid (∀ j, 0 ≤ on j ∧ on j ≤ j) := by
    intro j
    rw [hon]
    dsimp only
    split
    · exact opS_bd _ j
    · omega
  clear hon
  go_wp2_with fail
  have HRW7' : Hid (RW w w7 ⟨⟨7, a1, a2, a3, a4, a5, a6, a7, a8, a9, a10⟩, .slice q1 n1 m1, .slice q2 n2 m2, .slice q3 n3 m3⟩ ⟨on 0, .slice none 0 0, 0, c0F, c0F⟩) := by rw [HO0.out]; exact HRW7
  clear HRW7
  go_loopw [9] (fun iv wr => ∃ j : Nat, j ≤ 4 ∧ iv = .int .i64 ((j : Int) + 1) ∧ Hid (RW w wr ⟨⟨7, a1, a2, a3, a4, a5, a6, a7, a8, a9, a10⟩, .slice q1 n1 m1, .slice q2 n2 m2, .slice q3 n3 m3⟩ ⟨on j, .slice none 0 0, 0, c0F, c0F⟩) ∧ Hid (wr.heap[g5]? = some (.cells (VC.cells c5).toArray 30 (0, 0))) ∧ Hid (wr.heap[g7]? = some (.cells (VC.cells c7).toArray 30 (0, 0)))) (fun iv _ => (6 - intOf iv).toNat)
  case atStart => exact ⟨0, by omega, rfl, HRW7'.out, HA7.out, HB7.out⟩
  case round =>
    clear HRW7' HA7 HB7
    obtain ⟨j, hj, rfl, HRW, HA, HB⟩ := hrel
    by_cases hlt : j < 4
    case neg =>
      obtain rfl : j = 4 := by omega
      have HOP : Hid (on 4 = opF (flV v)) := by
        unfold Hid
        rw [HON.out]
        unfold opF
        simp only [HR5.out]
        cases fieldF kOp (flV v) with
        | none => rfl
        | some x => rfl
      have HPT : Hid (pathF (flV v) = if c7.h.kind = 4 then some c7.h.text else none) := by
        unfold Hid pathF
        rw [HR7.out]
        cases fieldF kPath (flV v) with
        | none => rfl
        | some x => rfl
      have hob := HBD.out 4
      rw [← HOP.out, HPT.out] at HR
      generalize on 4 = op at *
      clear HON HO0 HBD HPT HR5 HR7 HONE5 HA HC13
      obtain ⟨y0, -⟩ := rowC5 HRW.out.x4
      by_cases hop : op = 0
      case pos =>
        have HF : Hid (r = (ch0, 3)) := by unfold Hid; rw [HR.out, if_pos hop]
        have hq : (op == 0) = true := by rw [beq_iff_eq]; exact hop
        have HONEcc : Hid (∀ u ∈ CC.cells ⟨op, .slice none 0 0, 0, c0F, c0F⟩, u.oneCell' = true) := one_cc one_c0 one_c0 rfl
        clear HR hop hob
        have HC29 : Hid (∀ j, j < 29 → wr.cell? ⟨w.heap.size + 1 + 1, 0 + j, none⟩ = (CC.cells ⟨op, .slice none 0 0, 0, c0F, c0F⟩)[j]?) := (rowC5 HRW.out.x4).2.2.2.1
        have HX2 := Lib.hid HRW.out.x2
        have HBW := Lib.hid HRW.out.b
        go_wp2_with (first
          | refine wpl_load rfl rfl stC rfl (ccells_len _) HC29.out ?_
          | (refine wpl_store rfl rfl stC.2 rfl rfl (cs := CC.cells ⟨op, .slice none 0 0, 0, c0F, c0F⟩) rfl (ccells_len _) HONEcc.out HX2.out (Nat.le_refl 29) (row := CC.cells ⟨op, .slice none 0 0, 0, c0F, c0F⟩) (by rw [List.take_zero, List.nil_append, List.drop_of_length_le (Nat.le_refl 29), List.append_nil]) ?_; generalize hW9 : World.setRow _ _ _ = w9; obtain ⟨hd9, hk9, hz9, hb9⟩ := setRow_of hW9 HX2.out; clear hW9))
        refine bodyPost_ret (results_two rfl _ _ (w.heap.size + 1) _ _ _ _ _ rfl rfl hd9 Tryz.underlying46 rfl (by kernel_rfl)) rfl ⟨_, by rw [HF.out]; rfl, HONEcc.out, (fun h => by rw [HF.out] at h; exact absurd h (by decide)), HBW.out.trans (hb9 _ (by omega))⟩
      have hq : (op == 0) = false := by rw [beq_eq_false_iff_ne]; exact hop
      have HR2 : Hid (r = match (if c7.h.kind = 4 then some c7.h.text else none) with
        | none => (ch0, 3)
        | some t => if (parseL (L t)).2 ≠ 0 then (ch0, (parseL (L t)).2)
          else if fitF (flV v) op (parseL (L t)).1 = false then (ch0, 3)
          else if movB op = true ∧ (parseL (L t)).1 = [] then (ch0, 1)
          else (changeOf (flV v) op (parseL (L t)).1, 0)) := by unfold Hid; rw [HR.out, if_neg hop]
      clear HR
      have p0 : wr.cell? ⟨g7, 0, none⟩ = some (.int .i64 c7.h.kind) := cell_of_row _ _ _ _ _ _ HB.out
      by_cases h4 : c7.h.kind = 4
      case neg =>
        have HF : Hid (r = (ch0, 3)) := by unfold Hid; rw [HR2.out, if_neg h4]
        have hq4 : (c7.h.kind != 4) = true := by rw [bne_iff_ne]; exact h4
        have HONEcc : Hid (∀ u ∈ CC.cells ⟨op, .slice none 0 0, 0, c0F, c0F⟩, u.oneCell' = true) := one_cc one_c0 one_c0 rfl
        clear HR2 hop hob h4
        have HC29 : Hid (∀ j, j < 29 → wr.cell? ⟨w.heap.size + 1 + 1, 0 + j, none⟩ = (CC.cells ⟨op, .slice none 0 0, 0, c0F, c0F⟩)[j]?) := (rowC5 HRW.out.x4).2.2.2.1
        have HX2 := Lib.hid HRW.out.x2
        have HBW := Lib.hid HRW.out.b
        go_wp2_with (first
          | refine wpl_load rfl rfl stC rfl (ccells_len _) HC29.out ?_
          | (refine wpl_store rfl rfl stC.2 rfl rfl (cs := CC.cells ⟨op, .slice none 0 0, 0, c0F, c0F⟩) rfl (ccells_len _) HONEcc.out HX2.out (Nat.le_refl 29) (row := CC.cells ⟨op, .slice none 0 0, 0, c0F, c0F⟩) (by rw [List.take_zero, List.nil_append, List.drop_of_length_le (Nat.le_refl 29), List.append_nil]) ?_; generalize hW9 : World.setRow _ _ _ = w9; obtain ⟨hd9, hk9, hz9, hb9⟩ := setRow_of hW9 HX2.out; clear hW9))
        refine bodyPost_ret (results_two rfl _ _ (w.heap.size + 1) _ _ _ _ _ rfl rfl hd9 Tryz.underlying46 rfl (by kernel_rfl)) rfl ⟨_, by rw [HF.out]; rfl, HONEcc.out, (fun h => by rw [HF.out] at h; exact absurd h (by decide)), HBW.out.trans (hb9 _ (by omega))⟩
      have hq4 : (c7.h.kind != 4) = false := by rw [bne_eq_false_iff_eq]; exact h4
      have HR : Hid (r = if (parseL (L c7.h.text)).2 ≠ 0 then (ch0, (parseL (L c7.h.text)).2)
          else if fitF (flV v) op (parseL (L c7.h.text)).1 = false then (ch0, 3)
          else if movB op = true ∧ (parseL (L c7.h.text)).1 = [] then (ch0, 1)
          else (changeOf (flV v) op (parseL (L c7.h.text)).1, 0)) := by unfold Hid; rw [HR2.out, if_pos h4]
      have p9 : wr.cell? ⟨g7, 9, none⟩ = some (.string c7.h.text) := cell_of_row _ _ _ _ _ _ HB.out
      have HTX : Hid (c7.h.text.size ≤ 1000000000) := (rd_ok HOK7.out).text
      have HPS := Lib.hid (parse_sound (L c7.h.text))
      clear HR2 h4 HOK7 HONE7
      generalize c7.h.text = tx at *
      go_upto_region 14 with fail
      go_wp2_with fail
      refine (Parse_any tx _ HTX.out (HE.out.below HRW.out.b)).mono ?_
      rintro e w8 ⟨pv, rfl, hown8, hb8⟩
      have HRW8 := Lib.hid (HRW.out.below hb8)
      have HRDP := Lib.hid (Rd.of_own hown8)
      have HBK := Lib.hid (BlkIn.of_own hown8)
      have HOWN := Lib.hid hown8
      have HZ8 := Lib.hid HRW.out.z
      clear hown8 hb8 HRW y0 p0 p9 HB
      obtain ⟨pa, pcap, rfl⟩ := own_formS HOWN.out
      generalize parseL (L tx) = px at *
      obtain ⟨pl, pn⟩ := px
      dsimp only at HR HPS HRDP HBK HOWN ⊢
      go_upto_region 15 with (refine wpl_store rfl rfl stP rfl rfl (cs := [.slice pa pl.length pcap]) rfl rfl (by intro u hu; rw [List.mem_singleton.1 hu]; rfl) HRW8.out.x4 (by rw [ccells_len]; decide) (row := CC.cells ⟨op, .slice pa pl.length pcap, 0, c0F, c0F⟩) rfl ?_; generalize hW4 : World.setRow _ _ _ = w9; obtain ⟨h91, h92, h93⟩ := RW.set HRW8.out hW4; clear hW4)
      have HRW := Lib.hid h91
      have HRD9 : Hid (Rd w9 (.slice pa pl.length pcap) pl) := HRDP.out.kept HBK.out (fun b hb _ => h92 b (by have := HZ8.out; omega)) (by omega)
      have HBK9 : Hid (BlkIn (fun b => w.heap.size + 3 ≤ b) (.slice pa pl.length pcap)) := HBK.out.mono fun b hb => by have := HZ8.out; omega
      clear h91 h92 h93 HRW8 HRDP HBK HOWN HZ8
      by_cases hpn : pn = 0
      case neg =>
        have HF : Hid (r = (ch0, pn)) := by unfold Hid; rw [HR.out, if_pos hpn]
        have hqe : ((pn : Int) != 0) = true := by rw [bne_iff_ne]; omega
        have HPN := Lib.hid hpn
        have HONEcc : Hid (∀ u ∈ CC.cells ⟨op, .slice pa pl.length pcap, 0, c0F, c0F⟩, u.oneCell' = true) := one_cc one_c0 one_c0 rfl
        clear HR hpn
        have HC29 : Hid (∀ j, j < 29 → w9.cell? ⟨w.heap.size + 1 + 1, 0 + j, none⟩ = (CC.cells ⟨op, .slice pa pl.length pcap, 0, c0F, c0F⟩)[j]?) := (rowC5 HRW.out.x4).2.2.2.1
        have HX2 := Lib.hid HRW.out.x2
        have HBW := Lib.hid HRW.out.b
        go_wp2_with (first
          | refine wpl_load rfl rfl stC rfl (ccells_len _) HC29.out ?_
          | (refine wpl_store rfl rfl stC.2 rfl rfl (cs := CC.cells ⟨op, .slice pa pl.length pcap, 0, c0F, c0F⟩) rfl (ccells_len _) HONEcc.out HX2.out (Nat.le_refl 29) (row := CC.cells ⟨op, .slice pa pl.length pcap, 0, c0F, c0F⟩) (by rw [List.take_zero, List.nil_append, List.drop_of_length_le (Nat.le_refl 29), List.append_nil]) ?_; generalize hW9 : World.setRow _ _ _ = w9; obtain ⟨hd9, hk9, hz9, hb9⟩ := setRow_of hW9 HX2.out; clear hW9))
        refine bodyPost_ret (results_two rfl _ _ (w.heap.size + 1) _ _ _ _ _ rfl rfl hd9 Tryz.underlying46 rfl (by kernel_rfl)) rfl ⟨_, by rw [HF.out]; rfl, HONEcc.out, (fun h => by rw [HF.out] at h; exact absurd h HPN.out), HBW.out.trans (hb9 _ (by omega))⟩
      subst hpn
      obtain ⟨hva, -⟩ := HPS.out rfl
      have HVA := Lib.hid hva
      replace HR : Hid (r = if fitF (flV v) op pl = false then (ch0, 3) else if movB op = true ∧ pl = [] then (ch0, 1) else (changeOf (flV v) op pl, 0)) := by unfold Hid; rw [HR.out, if_neg (by decide)]
      clear hva HPS
      obtain ⟨fa, fm, hfe, hfl⟩ := HL3.out
      simp only [Value.slice.injEq] at hfe
      obtain ⟨rfl, rfl, rfl⟩ := hfe
      obtain ⟨⟨-, -, -, -, -, -, -, -, -, -, -, -, x12⟩, -⟩ := box13 HRW.out.x1
      clear HL3
      go_upto_region 19 with fail
      generalize hW0 : World.alloc w9 _ = w10
      obtain ⟨ha0, -, hz0, hb0⟩ := alloc_of hW0
      have hrt : RT w w10 ⟨⟨7, a1, a2, a3, a4, a5, a6, a7, a8, a9, a10⟩, .slice q1 n1 m1, .slice q2 n2 m2, .slice q3 (flV v).length m3⟩ ⟨op, .slice pa pl.length pcap, 0, c0F, c0F⟩ (.slice pa pl.length pcap) pl w9.heap.size ((flV v).length - 2) :=
        ⟨HRW.out.below hb0, HRD9.out.below hb0, (HBK9.out.lt' HRD9.out).mono fun b hb => hb, ha0, HRW.out.z⟩
      have HT10 := Lib.hid hrt
      have HLN : Hid ((flV v).length ≤ 1000000) := by
        have := fl_nod v
        unfold Hid
        omega
      clear hW0 ha0 hz0 hb0 hrt HRD9 HBK9 HRW x12 hfl
      generalize w9.heap.size = gl at *
      generalize hnn : (((flV v).length : Nat) : Int) - 2 = nn at *
      have HNN := Lib.hid hnn
      have hn0 : -2 ≤ nn := by omega
      have hn1 : nn ≤ 1000000 := by have := HLN.out; omega
      clear hnn
      have HK29 : Hid (∀ j, j < 29 → w10.cell? ⟨w.heap.size + 1 + 1, 0 + j, none⟩ = (CC.cells ⟨op, .slice pa pl.length pcap, 0, c0F, c0F⟩)[j]?) := (rowC5 HT10.out.rw.x4).2.2.2.1
      go_wp2_with (refine wpl_load rfl rfl stC rfl (ccells_len _) HK29.out ?_)
      refine (keyed_any ⟨op, pl, 0, v0, v0⟩ ⟨op, .slice pa pl.length pcap, 0, c0F, c0F⟩ w10 (HT10.out.rdc hob)).mono ?_
      rintro e w11 ⟨rfl, hb⟩
      have HT10b := Lib.hid (HT10.out.below hb)
      clear hb HK29 HT10
      dsimp only
      go_wp2_with fail
      refine (take_any kAt (movB op && lastK pl) v ⟨⟨7, a1, a2, a3, a4, a5, a6, a7, a8, a9, a10⟩, .slice q1 n1 m1, .slice q2 n2 m2, .slice q3 (flV v).length m3⟩ w11 w.heap.size gl (nn) (by have h1 := b1_le (fieldF kAt (flV v)).isSome; have h2 := b1_le (fieldF kOld (flV v)).isSome; omega) (by omega) hn (by omega) HT10b.out.rw.x1 HT10b.out.l rfl (HV.out.stays HT10b.out.rw.b)).mono ?_
      rintro e w12 ⟨c13, rfl, hr, hg, hl⟩
      have HTw12 := Lib.hid (HT10b.out.take hg hl)
      have HONEc13 := Lib.hid (vc_one hr.any)
      have HRc13 : Hid (RdI w12 (fun b => gl < b) c13 ((fieldF kAt (flV v)).getD v0)) := hr.mono fun b hb => by have := (Array.getElem?_eq_some_iff.1 HT10b.out.l).1; omega
      have hzb := hg.size
      have hlb := (Array.getElem?_eq_some_iff.1 HT10b.out.l).1
      have HGL : Hid (gl < w12.heap.size) := by unfold Hid; omega
      clear hr hg hl hzb hlb HT10b 
      go_upto_region 20 with (refine wpl_new rfl rfl stVk rfl (cs := VC.cells c13) rfl (cells_len _) HONEc13.out rfl rfl rfl ?_; generalize hW1 : World.alloc w12 _ = w13; obtain ⟨ha3, -, hz3, hb3⟩ := alloc_of' hW1; have HBc13 := Lib.hid ha3; have HTw13 := Lib.hid (HTw12.out.below hb3); have HRnc13 := Lib.hid (HRc13.out.stays hb3);  clear hW1 ha3 hb3 hz3)
      have HGc13 : Hid (gl < w12.heap.size) := HGL.out
      clear HGL HTw12 HRc13 
      have HRc13 := HRnc13
      skip
      clear HRnc13 
      generalize w12.heap.size = g13 at *
      obtain ⟨y0, -⟩ := rowC5 HTw13.out.rw.x4
      go_wp2_with fail
      refine (hasOld_any _ _).mono ?_
      rintro e wx ⟨rfl, rfl⟩
      clear y0
      have HTw13b := HTw13
      have HRc13b := HRc13; have HBc13b := HBc13
      clear HTw13 HRc13 HBc13
      go_wp2_with fail
      refine (take_any kOld (oldB op) v ⟨⟨7, a1, a2, a3, a4, a5, a6, a7, a8, a9, a10⟩, .slice q1 n1 m1, .slice q2 n2 m2, .slice q3 (flV v).length m3⟩ w13 w.heap.size gl (nn - b1 (fieldF kAt (flV v)).isSome) (by have h1 := b1_le (fieldF kAt (flV v)).isSome; have h2 := b1_le (fieldF kOld (flV v)).isSome; omega) (by omega) hn (by omega) HTw13b.out.rw.x1 HTw13b.out.l rfl (HV.out.stays HTw13b.out.rw.b)).mono ?_
      rintro e w15 ⟨c15, rfl, hr, hg, hl⟩
      have HTw15 := Lib.hid (HTw13b.out.take hg hl)
      have HONEc15 := Lib.hid (vc_one hr.any)
      have HRc15 : Hid (RdI w15 (fun b => gl < b) c15 ((fieldF kOld (flV v)).getD v0)) := hr.mono fun b hb => by have := (Array.getElem?_eq_some_iff.1 HTw13b.out.l).1; omega
      have hzb := hg.size
      have hlb := (Array.getElem?_eq_some_iff.1 HTw13b.out.l).1
      have HGL : Hid (gl < w15.heap.size) := by unfold Hid; omega
      replace HRc13 := Lib.hid (rd_take hg HRc13b.out)
      replace HBc13 := Lib.hid (box_take hg HBc13b.out HGc13.out)
      clear hr hg hl hzb hlb HTw13b HRc13b HBc13b
      go_upto_region 21 with (refine wpl_new rfl rfl stVk rfl (cs := VC.cells c15) rfl (cells_len _) HONEc15.out rfl rfl rfl ?_; generalize hW1 : World.alloc w15 _ = w16; obtain ⟨ha3, -, hz3, hb3⟩ := alloc_of' hW1; have HBc15 := Lib.hid ha3; have HTw16 := Lib.hid (HTw15.out.below hb3); have HRnc15 := Lib.hid (HRc15.out.stays hb3); have HRnc13 := Lib.hid (HRc13.out.stays hb3); have HBnc13 := Lib.hid ((hb3.block _ (Array.getElem?_eq_some_iff.1 HBc13.out).1).trans HBc13.out); clear hW1 ha3 hb3 hz3)
      have HGc15 : Hid (gl < w15.heap.size) := HGL.out
      clear HGL HTw15 HRc15 HRc13 HBc13
      have HRc15 := HRnc15
      have HRc13 := HRnc13; have HBc13 := HBnc13
      clear HRnc15 HRnc13 HBnc13
      generalize w15.heap.size = g15 at *
      obtain ⟨y0, -⟩ := rowC5 HTw16.out.rw.x4
      go_wp2_with fail
      refine (hasNew_any _ _).mono ?_
      rintro e wx ⟨rfl, rfl⟩
      clear y0
      have HTw16b := HTw16
      have HRc13b := HRc13; have HBc13b := HBc13; have HRc15b := HRc15; have HBc15b := HBc15
      clear HTw16 HRc13 HBc13 HRc15 HBc15
      go_wp2_with fail
      refine (take_any kNew (newB op) v ⟨⟨7, a1, a2, a3, a4, a5, a6, a7, a8, a9, a10⟩, .slice q1 n1 m1, .slice q2 n2 m2, .slice q3 (flV v).length m3⟩ w16 w.heap.size gl (nn - b1 (fieldF kAt (flV v)).isSome - b1 (fieldF kOld (flV v)).isSome) (by have h1 := b1_le (fieldF kAt (flV v)).isSome; have h2 := b1_le (fieldF kOld (flV v)).isSome; omega) (by omega) hn (by omega) HTw16b.out.rw.x1 HTw16b.out.l rfl (HV.out.stays HTw16b.out.rw.b)).mono ?_
      rintro e w18 ⟨c17, rfl, hr, hg, hl⟩
      have HTw18 := Lib.hid (HTw16b.out.take hg hl)
      have HONEc17 := Lib.hid (vc_one hr.any)
      have HRc17 : Hid (RdI w18 (fun b => gl < b) c17 ((fieldF kNew (flV v)).getD v0)) := hr.mono fun b hb => by have := (Array.getElem?_eq_some_iff.1 HTw16b.out.l).1; omega
      have hzb := hg.size
      have hlb := (Array.getElem?_eq_some_iff.1 HTw16b.out.l).1
      have HGL : Hid (gl < w18.heap.size) := by unfold Hid; omega
      replace HRc13 := Lib.hid (rd_take hg HRc13b.out)
      replace HBc13 := Lib.hid (box_take hg HBc13b.out HGc13.out)
      replace HRc15 := Lib.hid (rd_take hg HRc15b.out)
      replace HBc15 := Lib.hid (box_take hg HBc15b.out HGc15.out)
      clear hr hg hl hzb hlb HTw16b HRc13b HBc13b HRc15b HBc15b
      go_upto_region 22 with (refine wpl_new rfl rfl stVk rfl (cs := VC.cells c17) rfl (cells_len _) HONEc17.out rfl rfl rfl ?_; generalize hW1 : World.alloc w18 _ = w19; obtain ⟨ha3, -, hz3, hb3⟩ := alloc_of' hW1; have HBc17 := Lib.hid ha3; have HTw19 := Lib.hid (HTw18.out.below hb3); have HRnc17 := Lib.hid (HRc17.out.stays hb3); have HRnc13 := Lib.hid (HRc13.out.stays hb3); have HBnc13 := Lib.hid ((hb3.block _ (Array.getElem?_eq_some_iff.1 HBc13.out).1).trans HBc13.out); have HRnc15 := Lib.hid (HRc15.out.stays hb3); have HBnc15 := Lib.hid ((hb3.block _ (Array.getElem?_eq_some_iff.1 HBc15.out).1).trans HBc15.out); clear hW1 ha3 hb3 hz3)
      have HGc17 : Hid (gl < w18.heap.size) := HGL.out
      clear HGL HTw18 HRc17 HRc13 HBc13 HRc15 HBc15
      have HRc17 := HRnc17
      have HRc13 := HRnc13; have HBc13 := HBnc13; have HRc15 := HRnc15; have HBc15 := HBnc15
      clear HRnc17 HRnc13 HBnc13 HRnc15 HBnc15
      generalize w18.heap.size = g17 at *
      have HST : Hid (ST3 w w19 ⟨⟨7, a1, a2, a3, a4, a5, a6, a7, a8, a9, a10⟩, .slice q1 n1 m1, .slice q2 n2 m2, .slice q3 (flV v).length m3⟩ ⟨op, .slice pa pl.length pcap, 0, c0F, c0F⟩ (.slice pa pl.length pcap) pl gl (nn - b1 (fieldF kAt (flV v)).isSome - b1 (fieldF kOld (flV v)).isSome - b1 (fieldF kNew (flV v)).isSome) g13 g15 g17 c13 c15 c17 ((fieldF kAt (flV v)).getD v0) ((fieldF kOld (flV v)).getD v0) ((fieldF kNew (flV v)).getD v0)) := ⟨HTw19.out, HBc13.out, HBc15.out, HBc17.out, HRc13.out, HRc15.out, HRc17.out, HGc13.out, HGc15.out, HGc17.out⟩
      clear HTw19 HBc13 HBc15 HBc17 HRc13 HRc15 HRc17 HGc13 HGc15 HGc17
      have HFIT : Hid (fitF (flV v) op pl = (((fieldF kAt (flV v)).isSome == (movB op && lastK pl)) && (((fieldF kOld (flV v)).isSome == oldB op) && (((fieldF kNew (flV v)).isSome == newB op) && (decide (nn - b1 (fieldF kAt (flV v)).isSome - b1 (fieldF kOld (flV v)).isSome - b1 (fieldF kNew (flV v)).isSome = 0) && !((movB op && lastK pl) && decide (numV ((fieldF kAt (flV v)).getD v0) < 0))))))) := by
        have e : ∀ a b : Bool, decide (a = b) = (a == b) := fun a b => by cases a <;> cases b <;> rfl
        have e2 : decide ((flV v).length = 2 + b1 (fieldF kAt (flV v)).isSome + b1 (fieldF kOld (flV v)).isSome + b1 (fieldF kNew (flV v)).isSome) = decide (nn - b1 (fieldF kAt (flV v)).isSome - b1 (fieldF kOld (flV v)).isSome - b1 (fieldF kNew (flV v)).isSome = 0) := by
          have := HNN.out
          rw [decide_eq_decide]
          omega
        unfold Hid fitF
        rw [e, e, e, e2]
      go_upto_region 22 with fail
      generalize hn3 : nn - b1 (fieldF kAt (flV v)).isSome - b1 (fieldF kOld (flV v)).isSome - b1 (fieldF kNew (flV v)).isSome = n3 at *
      clear hn3
      have HD13 : Hid (decB c13.h.neg (L c13.h.ds) c13.h.exp = true ∧ c13.h.ds.size ≤ 120 ∧ c13.h.exp ≤ 400 ∧ -400 ≤ c13.h.exp) := by
        have hh := rd_head HST.out.r13
        unfold Hid
        rw [hh]
        cases ho : fieldF kAt (flV v) with
        | none => exact ⟨rfl, by decide, by decide, by decide⟩
        | some x => exact HAT.out x ho
      have HNV : Hid (numI c13.h.kind (numD c13.h.neg (L c13.h.ds) c13.h.exp) = numV ((fieldF kAt (flV v)).getD v0)) := by
        have hh := rd_head HST.out.r13
        unfold Hid numV
        rw [hh]
      go_cut [119] (fun q wx => q = .bool (!fitF (flV v) op pl) ∧ ST3 w wx ⟨⟨7, a1, a2, a3, a4, a5, a6, a7, a8, a9, a10⟩, .slice q1 n1 m1, .slice q2 n2 m2, .slice q3 (flV v).length m3⟩ ⟨op, .slice pa pl.length pcap, 0, c0F, c0F⟩ (.slice pa pl.length pcap) pl gl n3 g13 g15 g17 c13 c15 c17 ((fieldF kAt (flV v)).getD v0) ((fieldF kOld (flV v)).getD v0) ((fieldF kNew (flV v)).getD v0))
      case first =>
        clear HR HAT HFD
        generalize fitF (flV v) op pl = ft at *
        generalize ((fieldF kAt (flV v)).isSome == (movB op && lastK pl)) = ba at *
        generalize ((fieldF kOld (flV v)).isSome == oldB op) = bo at *
        generalize ((fieldF kNew (flV v)).isSome == newB op) = bn at *
        generalize numV ((fieldF kAt (flV v)).getD v0) = nv at *
        cases ba with
        | false =>
          go_wp2_with fail
          go_meet
          exact ⟨by rw [HFIT.out]; rfl, HST.out⟩
        | true =>
        cases bo with
        | false =>
          go_wp2_with fail
          go_meet
          exact ⟨by rw [HFIT.out]; rfl, HST.out⟩
        | true =>
        cases bn with
        | false =>
          go_wp2_with fail
          go_meet
          exact ⟨by rw [HFIT.out]; rfl, HST.out⟩
        | true =>
        have l0 : w19.cell? ⟨gl, 0, none⟩ = some (.int .i64 n3) := cell_of_row _ _ _ _ _ _ HST.out.t.l
        by_cases hz : n3 = 0
        case neg =>
          have hq : (n3 != 0) = true := by rw [bne_iff_ne]; exact hz
          have HF : Hid (ft = false) := by unfold Hid; rw [HFIT.out, decide_eq_false hz]; rfl
          clear hz HFIT
          go_wp2_with fail
          go_meet
          exact ⟨by rw [HF.out]; rfl, HST.out⟩
        have hq : (n3 != 0) = false := by rw [bne_eq_false_iff_eq]; exact hz
        have HFT : Hid (ft = !((movB op && lastK pl) && decide (nv < 0))) := by unfold Hid; rw [HFIT.out, decide_eq_true hz]; simp
        have HK29 : Hid (∀ j, j < 29 → w19.cell? ⟨w.heap.size + 1 + 1, 0 + j, none⟩ = (CC.cells ⟨op, .slice pa pl.length pcap, 0, c0F, c0F⟩)[j]?) := (rowC5 HST.out.t.rw.x4).2.2.2.1
        have HKY := Lib.hid (keyed_any ⟨op, pl, 0, v0, v0⟩ ⟨op, .slice pa pl.length pcap, 0, c0F, c0F⟩ w19 (HST.out.t.rdc hob))
        dsimp only at HKY
        clear hz HFIT
        generalize (movB op && lastK pl) = kb at *
        go_wp2_with (refine wpl_loadG rfl stC rfl rfl (ccells_len _) HK29.out ?_)
        refine HKY.out.mono ?_
        rintro e w20 ⟨rfl, hb⟩
        have HST20 := Lib.hid (HST.out.below hb)
        clear hb HKY HK29 HST l0 hq
        cases kb with
        | false =>
          go_wp2_with fail
          go_meet
          exact ⟨by rw [HFT.out]; rfl, HST20.out⟩
        | true =>
          have HC13 : Hid (∀ j, j < 13 → w20.cell? ⟨g13, 0 + j, none⟩ = (VC.cells c13)[j]?) := rowV HST20.out.b13
          have HNM := Lib.hid (number_any c13 w20 HD13.out.1 HD13.out.2.1 HD13.out.2.2.1 HD13.out.2.2.2 (vc_one HST20.out.r13.any))
          rw [HNV.out] at HNM
          go_wp2_with (refine wpl_loadG rfl stVk rfl rfl (cells_len _) HC13.out ?_)
          refine HNM.out.mono ?_
          rintro e w21 ⟨rfl, hb⟩
          have HST21 := Lib.hid (HST20.out.below hb)
          clear hb HNM HC13 HST20
          go_wp2_with fail
          go_meet
          exact ⟨by rw [HFT.out]; simp, HST21.out⟩
      case rest =>
      obtain ⟨rfl, hst⟩ := hcut
      clear HST HFIT
      have HST := Lib.hid hst
      clear hst
      generalize ((fieldF kAt (flV v)).isSome == (movB op && lastK pl)) = s14
      generalize ((fieldF kOld (flV v)).isSome == oldB op) = s16
      generalize ((fieldF kNew (flV v)).isSome == newB op) = s18
      cases hft : fitF (flV v) op pl with
      | false =>
        have HF : Hid (r = (ch0, 3)) := by unfold Hid; rw [HR.out, if_pos hft]
        have HRW := Lib.hid HST.out.t.rw
        have HONEcc : Hid (∀ u ∈ CC.cells ⟨op, .slice pa pl.length pcap, 0, c0F, c0F⟩, u.oneCell' = true) := one_cc one_c0 one_c0 rfl
        clear HR HST hft
        have HC29 : Hid (∀ j, j < 29 → wc.cell? ⟨w.heap.size + 1 + 1, 0 + j, none⟩ = (CC.cells ⟨op, .slice pa pl.length pcap, 0, c0F, c0F⟩)[j]?) := (rowC5 HRW.out.x4).2.2.2.1
        have HX2 := Lib.hid HRW.out.x2
        have HBW := Lib.hid HRW.out.b
        go_wp2_with (first
          | refine wpl_load rfl rfl stC rfl (ccells_len _) HC29.out ?_
          | (refine wpl_store rfl rfl stC.2 rfl rfl (cs := CC.cells ⟨op, .slice pa pl.length pcap, 0, c0F, c0F⟩) rfl (ccells_len _) HONEcc.out HX2.out (Nat.le_refl 29) (row := CC.cells ⟨op, .slice pa pl.length pcap, 0, c0F, c0F⟩) (by rw [List.take_zero, List.nil_append, List.drop_of_length_le (Nat.le_refl 29), List.append_nil]) ?_; generalize hW9 : World.setRow _ _ _ = w9; obtain ⟨hd9, hk9, hz9, hb9⟩ := setRow_of hW9 HX2.out; clear hW9))
        refine bodyPost_ret (results_two rfl _ _ (w.heap.size + 1) _ _ _ _ _ rfl rfl hd9 Tryz.underlying46 rfl (by kernel_rfl)) rfl ⟨_, by rw [HF.out]; rfl, HONEcc.out, (fun h => by rw [HF.out] at h; exact absurd h (by decide)), HBW.out.trans (hb9 _ (by omega))⟩
      | true =>
      replace HR : Hid (r = if movB op = true ∧ pl = [] then (ch0, 1) else (changeOf (flV v) op pl, 0)) := by unfold Hid; rw [HR.out, if_neg (by rw [hft]; decide)]
      clear hft
      obtain ⟨ps, hps⟩ : ∃ ps, ps = if (movB op && lastK pl) = true then numV ((fieldF kAt (flV v)).getD v0) else 0 := ⟨_, rfl⟩
      have HPOS := Lib.hid hps
      clear hps
      have HK29 : Hid (∀ j, j < 29 → wc.cell? ⟨w.heap.size + 1 + 1, 0 + j, none⟩ = (CC.cells ⟨op, .slice pa pl.length pcap, 0, c0F, c0F⟩)[j]?) := (rowC5 HST.out.t.rw.x4).2.2.2.1
      have HKY := Lib.hid (keyed_any ⟨op, pl, 0, v0, v0⟩ ⟨op, .slice pa pl.length pcap, 0, c0F, c0F⟩ wc (HST.out.t.rdc hob))
      dsimp only at HKY
      go_upto_region 24 with fail
      go_wp2_with (refine wpl_load rfl rfl stC rfl (ccells_len _) HK29.out ?_)
      refine HKY.out.mono ?_
      rintro e w20 ⟨rfl, hb⟩
      have HST20 := Lib.hid (HST.out.below hb)
      clear hb HKY HK29 HST
      go_upto_if 122 with fail
      go_cut [] (fun wx => ST3 w wx ⟨⟨7, a1, a2, a3, a4, a5, a6, a7, a8, a9, a10⟩, .slice q1 n1 m1, .slice q2 n2 m2, .slice q3 (flV v).length m3⟩ ⟨op, .slice pa pl.length pcap, ps, c0F, c0F⟩ (.slice pa pl.length pcap) pl gl n3 g13 g15 g17 c13 c15 c17 ((fieldF kAt (flV v)).getD v0) ((fieldF kOld (flV v)).getD v0) ((fieldF kNew (flV v)).getD v0))
      case first =>
        cases hkb : (movB op && lastK pl) with
        | false =>
          have HF : Hid (ps = 0) := by unfold Hid; rw [HPOS.out, if_neg (by rw [hkb]; decide)]
          clear hkb
          go_wp2_with fail
          go_meet
          rw [HF.out]
          exact HST20.out
        | true =>
          have HF : Hid (ps = numV ((fieldF kAt (flV v)).getD v0)) := by unfold Hid; rw [HPOS.out, if_pos hkb]
          clear hkb
          have HC13 : Hid (∀ j, j < 13 → w20.cell? ⟨g13, 0 + j, none⟩ = (VC.cells c13)[j]?) := rowV HST20.out.b13
          have HNM := Lib.hid (number_any c13 w20 HD13.out.1 HD13.out.2.1 HD13.out.2.2.1 HD13.out.2.2.2 (vc_one HST20.out.r13.any))
          rw [HNV.out, ← HF.out] at HNM
          go_wp2_with (refine wpl_load rfl rfl stVk rfl (cells_len _) HC13.out ?_)
          refine HNM.out.mono ?_
          rintro e w21 ⟨rfl, hb⟩
          have HST21 := Lib.hid (HST20.out.below hb)
          clear hb HNM HC13 HST20
          go_wp2_with (refine wpl_store rfl rfl stI rfl rfl (cs := [.int .i64 ps]) rfl rfl (by intro u hu; rw [List.mem_singleton.1 hu]; rfl) HST21.out.t.rw.x4 (by rw [ccells_len]; decide) (row := CC.cells ⟨op, .slice pa pl.length pcap, ps, c0F, c0F⟩) rfl ?_; generalize hW4 : World.setRow _ _ _ = w22; have HST22 := Lib.hid (HST21.out.set hW4); clear hW4)
          go_meet
          exact HST22.out
      case rest =>
      have HST := Lib.hid hcut
      clear hcut HST20
      have HSX : Hid (∀ w', Below wc.heap.size wc w' → (∀ j, j < 13 → w'.cell? ⟨g15, 0 + j, none⟩ = (VC.cells c15)[j]?) ∧ (∀ j, j < 13 → w'.cell? ⟨g17, 0 + j, none⟩ = (VC.cells c17)[j]?)) := fun w' hb => ⟨rowV (HST.out.below hb).b15, rowV (HST.out.below hb).b17⟩
      have HN15 : Hid (nodV ((fieldF kOld (flV v)).getD v0) ≤ 1000000 ∧ depV ((fieldF kOld (flV v)).getD v0) ≤ 65536) := fd_small kOld v hn (by omega)
      have HN17 : Hid (nodV ((fieldF kNew (flV v)).getD v0) ≤ 1000000 ∧ depV ((fieldF kNew (flV v)).getD v0) ≤ 65536) := fd_small kNew v hn (by omega)
      go_upto_region 26 with fail
      refine wp_region_held_drew (S := fun w' => (∀ j, j < 13 → w'.cell? ⟨g15, 0 + j, none⟩ = (VC.cells c15)[j]?) ∧ (∀ j, j < 13 → w'.cell? ⟨g17, 0 + j, none⟩ = (VC.cells c17)[j]?)) (by kernel_rfl) (HSX.out _ (drewB wc)) (fun hHeld => ?_)
      replace HST := Lib.hid (HST.out.below (drewB wc))
      generalize wc.drew = wd at *
      have HZW : Hid (w.heap.size + 3 ≤ wd.heap.size) := HST.out.t.rw.z
      refine take_at 0 (some 126) rfl rfl (by kernel_rfl) (by kernel_rfl) (by kernel_rfl) (fun _ _ _ h => h) (yl_load (cs := VC.cells c15) stVk (cells_len _) _ _ (fun w hS => hS.1) rfl _ rfl rfl) hHeld ?_
      simp only [Act.put, List.setIfInBounds_toArray, List.set_cons_zero, List.set_cons_succ]
      refine take_at 2 (some 128) rfl rfl (by kernel_rfl) (by kernel_rfl) (by kernel_rfl) (fun _ _ _ h => h) (yl_load (cs := VC.cells c17) stVk (cells_len _) _ _ (fun w hS => hS.2) rfl _ rfl rfl) hHeld ?_
      simp only [Act.put, List.setIfInBounds_toArray, List.set_cons_zero, List.set_cons_succ]
      refine wpAnyH_ready (rs := [1]) (by kernel_rfl) (by simp) ?_
      refine AllReadyH.cons rfl (fun K hK => ?_) AllReadyH.nil
      go_simp
      refine (Copy_any _ c15 wd HN15.out.1 HN15.out.2 HST.out.r15.any).mono ?_
      rintro e w20 ⟨c21, rfl, hr, hb⟩
      have HST20 := Lib.hid (HST.out.below hb)
      have HRA := Lib.hid hr
      have HZA := Lib.hid hb.size
      clear hHeld
      refine hK.out _ _ ⟨rowV HST20.out.b15, rowV HST20.out.b17⟩ (fun hHeld => ?_)
      clear hK K hr hb HST
      refine take_at 4 (some 130) rfl rfl (by kernel_rfl) (by kernel_rfl) (by kernel_rfl) (fun _ _ _ h => h) (Or.inl ⟨by rfl, fun w hSw => by (go_simp; with_reducible rfl)⟩) hHeld ?_
      simp only [Act.put, List.setIfInBounds_toArray, List.set_cons_zero, List.set_cons_succ]
      refine wpAnyH_ready (rs := [3]) (by kernel_rfl) (by simp) ?_
      refine AllReadyH.cons rfl (fun K hK => ?_) AllReadyH.nil
      go_simp
      refine (Copy_any _ c17 w20 HN17.out.1 HN17.out.2 HST20.out.r17.any).mono ?_
      rintro e w21 ⟨c22, rfl, hr, hb⟩
      have HST21 := Lib.hid (HST20.out.below hb)
      have HRB := Lib.hid hr
      replace HRA := Lib.hid (HRA.out.stays hb)
      have HZB := Lib.hid hb.size
      clear hHeld
      refine hK.out _ _ ⟨rowV HST21.out.b15, rowV HST21.out.b17⟩ (fun hHeld => ?_)
      clear hK K hr hb HST20
      refine wpAnyH_ready (rs := [5]) (by kernel_rfl) (by simp) ?_
      refine AllReadyH.cons rfl (fun K hK => ?_) AllReadyH.nil
      refine step_store (row := CC.cells ⟨op, .slice pa pl.length pcap, ps, c21, c0F⟩) rfl _ _ rfl stV.2 (w.heap.size + 1 + 1) 3 rfl rfl (cs := VC.cells c21) rfl (cells_len _) (vc_one HRA.out.any) HST21.out.t.rw.x4 (by rw [ccells_len]; decide) rfl ?_
      generalize hW4 : World.setRow _ _ _ = w22
      have HST22 := Lib.hid (HST21.out.set hW4)
      obtain ⟨-, hk22, hz22, -⟩ := setRow_of hW4 HST21.out.t.rw.x4
      replace HRA : Hid (RdI w22 (fun b => w.heap.size + 3 ≤ b) c21 ((fieldF kOld (flV v)).getD v0)) := (HRA.out.mono fun b hb => by have := HZA.out; have := HZW.out; omega).kept (fun b hb _ => hk22 b (by omega)) (by omega)
      replace HRB : Hid (RdI w22 (fun b => w.heap.size + 3 ≤ b) c22 ((fieldF kNew (flV v)).getD v0)) := (HRB.out.mono fun b hb => by have := HZA.out; have := HZW.out; omega).kept (fun b hb _ => hk22 b (by omega)) (by omega)
      clear hHeld
      refine hK.out _ _ ⟨rowV HST22.out.b15, rowV HST22.out.b17⟩ (fun hHeld => ?_)
      clear hK K hW4 hk22 hz22 HST21
      refine take_at 6 (some 131) rfl rfl (by kernel_rfl) (by kernel_rfl) (by kernel_rfl) (fun _ _ _ h => h) (Or.inl ⟨by rfl, fun w hSw => by (go_simp; with_reducible rfl)⟩) hHeld ?_
      simp only [Act.put, List.setIfInBounds_toArray, List.set_cons_zero, List.set_cons_succ]
      refine wpAnyH_ready (rs := [7]) (by kernel_rfl) (by simp) ?_
      refine AllReadyH.cons rfl (fun K hK => ?_) AllReadyH.nil
      refine step_store (row := CC.cells ⟨op, .slice pa pl.length pcap, ps, c21, c22⟩) rfl _ _ rfl stV.2 (w.heap.size + 1 + 1) 16 rfl rfl (cs := VC.cells c22) rfl (cells_len _) (vc_one HRB.out.any) HST22.out.t.rw.x4 (by rw [ccells_len]; decide) rfl ?_
      generalize hW4 : World.setRow _ _ _ = w23
      have HST23 := Lib.hid (HST22.out.set hW4)
      obtain ⟨-, hk23, hz23, -⟩ := setRow_of hW4 HST22.out.t.rw.x4
      replace HRA : Hid (RdI w23 (fun b => w.heap.size + 3 ≤ b) c21 ((fieldF kOld (flV v)).getD v0)) := HRA.out.kept (fun b hb _ => hk23 b (by omega)) (by omega)
      replace HRB : Hid (RdI w23 (fun b => w.heap.size + 3 ≤ b) c22 ((fieldF kNew (flV v)).getD v0)) := HRB.out.kept (fun b hb _ => hk23 b (by omega)) (by omega)
      clear hHeld
      refine hK.out _ _ ⟨rowV HST23.out.b15, rowV HST23.out.b17⟩ (fun hHeld => ?_)
      clear hK K hW4 hk23 hz23 HST22 hHeld
      refine wpAnyH_done (by kernel_rfl) ?_ _
      go_simp
      have HIP : Hid (I64 ps) := by
        unfold Hid
        rw [HPOS.out]
        have := numV_bd ((fieldF kAt (flV v)).getD v0)
        split
        · exact ⟨by omega, by omega⟩
        · exact i64_0
      have HMV : Hid (movB op = decide (op = 2 ∨ op = 3)) := rfl
      obtain ⟨y0, y1, -, -, -, -⟩ := rowC5 HST23.out.t.rw.x4
      dsimp only at y0 y1
      clear HFD HV HE HAT HD13 HNV
      by_cases hp : pl = []
      case neg =>
        have HF : Hid (r = (changeOf (flV v) op pl, 0)) := by unfold Hid; rw [HR.out, if_neg (fun h => hp h.2)]
        have hq : (((pl.length : Nat) : Int) == 0) = false := by
          rw [beq_eq_false_iff_ne]
          have := List.length_pos_iff.2 hp
          omega
        clear HR HMV hp
        go_upto_region 29 with fail
        have HONEcc : Hid (∀ u ∈ CC.cells ⟨op, .slice pa pl.length pcap, ps, c21, c22⟩, u.oneCell' = true) := one_cc (vc_one HRA.out.any) (vc_one HRB.out.any) rfl
        have HC29 : Hid (∀ j, j < 29 → w23.cell? ⟨w.heap.size + 1 + 1, 0 + j, none⟩ = (CC.cells ⟨op, .slice pa pl.length pcap, ps, c21, c22⟩)[j]?) := (rowC5 HST23.out.t.rw.x4).2.2.2.1
        have HX2 := Lib.hid HST23.out.t.rw.x2
        have HBW := Lib.hid HST23.out.t.rw.b
        go_wp2_with (first
          | refine wpl_load rfl rfl stC rfl (ccells_len _) HC29.out ?_
          | (refine wpl_store rfl rfl stC.2 rfl rfl (cs := CC.cells ⟨op, .slice pa pl.length pcap, ps, c21, c22⟩) rfl (ccells_len _) HONEcc.out HX2.out (Nat.le_refl 29) (row := CC.cells ⟨op, .slice pa pl.length pcap, ps, c21, c22⟩) (by rw [List.take_zero, List.nil_append, List.drop_of_length_le (Nat.le_refl 29), List.append_nil]) ?_; generalize hW9 : World.setRow _ _ _ = w9; obtain ⟨hd9, hk9, hz9, hb9⟩ := setRow_of hW9 HX2.out; clear hW9; refine RowKit.Hid.out ?_))
        unfold RowKit.Hid
        repeat go_step
        refine bodyPost_ret (results_two rfl _ _ (w.heap.size + 1) _ _ _ _ _ rfl rfl hd9 Tryz.underlying46 rfl (by kernel_rfl)) rfl ⟨_, by rw [HF.out]; rfl, HONEcc.out, (fun _ => by rw [HF.out]; exact ⟨rfl, HPOS.out, ⟨by show _ ≤ op; omega, by show op ≤ _; omega⟩, (by have h := HIP.out; rw [HPOS.out] at h; exact h), HST23.out.t.rp.kept HST23.out.t.bp (fun b hb _ => hk9 b (by omega)) (by omega), HST23.out.t.bp.mono fun b hb => by omega, (HRA.out.kept (fun b hb _ => hk9 b (by omega)) (by omega)).mono fun b hb => by omega, (HRB.out.kept (fun b hb _ => hk9 b (by omega)) (by omega)).mono fun b hb => by omega⟩), HBW.out.trans (hb9 _ (by omega))⟩
      case pos =>
      have hq : (((pl.length : Nat) : Int) == 0) = true := by rw [hp]; rfl
      by_cases h2 : op = 2
      case pos =>
        have HF : Hid (r = (ch0, 1)) := by unfold Hid; rw [HR.out, if_pos ⟨by rw [HMV.out, decide_eq_true (.inl h2)], hp⟩]
        have hq2 : (op == 2) = true := by rw [beq_iff_eq]; exact h2
        clear HR HMV hp h2
        have HONEcc : Hid (∀ u ∈ CC.cells ⟨op, .slice pa pl.length pcap, ps, c21, c22⟩, u.oneCell' = true) := one_cc (vc_one HRA.out.any) (vc_one HRB.out.any) rfl
        have HC29 : Hid (∀ j, j < 29 → w23.cell? ⟨w.heap.size + 1 + 1, 0 + j, none⟩ = (CC.cells ⟨op, .slice pa pl.length pcap, ps, c21, c22⟩)[j]?) := (rowC5 HST23.out.t.rw.x4).2.2.2.1
        have HX2 := Lib.hid HST23.out.t.rw.x2
        have HBW := Lib.hid HST23.out.t.rw.b
        go_wp2_with (first
          | refine wpl_load rfl rfl stC rfl (ccells_len _) HC29.out ?_
          | (refine wpl_store rfl rfl stC.2 rfl rfl (cs := CC.cells ⟨op, .slice pa pl.length pcap, ps, c21, c22⟩) rfl (ccells_len _) HONEcc.out HX2.out (Nat.le_refl 29) (row := CC.cells ⟨op, .slice pa pl.length pcap, ps, c21, c22⟩) (by rw [List.take_zero, List.nil_append, List.drop_of_length_le (Nat.le_refl 29), List.append_nil]) ?_; generalize hW9 : World.setRow _ _ _ = w9; obtain ⟨hd9, hk9, hz9, hb9⟩ := setRow_of hW9 HX2.out; clear hW9; refine RowKit.Hid.out ?_))
        unfold RowKit.Hid
        repeat go_step
        refine bodyPost_ret (results_two rfl _ _ (w.heap.size + 1) _ _ _ _ _ rfl rfl hd9 Tryz.underlying46 rfl (by kernel_rfl)) rfl ⟨_, by rw [HF.out]; rfl, HONEcc.out, (fun h => by rw [HF.out] at h; exact absurd h (by decide)), HBW.out.trans (hb9 _ (by omega))⟩
      have hq2 : (op == 2) = false := by rw [beq_eq_false_iff_ne]; exact h2
      by_cases h3 : op = 3
      case pos =>
        have HF : Hid (r = (ch0, 1)) := by unfold Hid; rw [HR.out, if_pos ⟨by rw [HMV.out, decide_eq_true (.inr h3)], hp⟩]
        have hq3 : (op == 3) = true := by rw [beq_iff_eq]; exact h3
        clear HR HMV hp h2 h3
        have HONEcc : Hid (∀ u ∈ CC.cells ⟨op, .slice pa pl.length pcap, ps, c21, c22⟩, u.oneCell' = true) := one_cc (vc_one HRA.out.any) (vc_one HRB.out.any) rfl
        have HC29 : Hid (∀ j, j < 29 → w23.cell? ⟨w.heap.size + 1 + 1, 0 + j, none⟩ = (CC.cells ⟨op, .slice pa pl.length pcap, ps, c21, c22⟩)[j]?) := (rowC5 HST23.out.t.rw.x4).2.2.2.1
        have HX2 := Lib.hid HST23.out.t.rw.x2
        have HBW := Lib.hid HST23.out.t.rw.b
        go_wp2_with (first
          | refine wpl_load rfl rfl stC rfl (ccells_len _) HC29.out ?_
          | (refine wpl_store rfl rfl stC.2 rfl rfl (cs := CC.cells ⟨op, .slice pa pl.length pcap, ps, c21, c22⟩) rfl (ccells_len _) HONEcc.out HX2.out (Nat.le_refl 29) (row := CC.cells ⟨op, .slice pa pl.length pcap, ps, c21, c22⟩) (by rw [List.take_zero, List.nil_append, List.drop_of_length_le (Nat.le_refl 29), List.append_nil]) ?_; generalize hW9 : World.setRow _ _ _ = w9; obtain ⟨hd9, hk9, hz9, hb9⟩ := setRow_of hW9 HX2.out; clear hW9; refine RowKit.Hid.out ?_))
        unfold RowKit.Hid
        repeat go_step
        refine bodyPost_ret (results_two rfl _ _ (w.heap.size + 1) _ _ _ _ _ rfl rfl hd9 Tryz.underlying46 rfl (by kernel_rfl)) rfl ⟨_, by rw [HF.out]; rfl, HONEcc.out, (fun h => by rw [HF.out] at h; exact absurd h (by decide)), HBW.out.trans (hb9 _ (by omega))⟩
      case neg =>
        have HF : Hid (r = (changeOf (flV v) op pl, 0)) := by unfold Hid; rw [HR.out, if_neg (fun h => by rw [HMV.out, decide_eq_true_iff] at h; rcases h.1 with h | h; exact h2 h; exact h3 h)]
        have hq3 : (op == 3) = false := by rw [beq_eq_false_iff_ne]; exact h3
        clear HR HMV hp h2 h3
        have HONEcc : Hid (∀ u ∈ CC.cells ⟨op, .slice pa pl.length pcap, ps, c21, c22⟩, u.oneCell' = true) := one_cc (vc_one HRA.out.any) (vc_one HRB.out.any) rfl
        have HC29 : Hid (∀ j, j < 29 → w23.cell? ⟨w.heap.size + 1 + 1, 0 + j, none⟩ = (CC.cells ⟨op, .slice pa pl.length pcap, ps, c21, c22⟩)[j]?) := (rowC5 HST23.out.t.rw.x4).2.2.2.1
        have HX2 := Lib.hid HST23.out.t.rw.x2
        have HBW := Lib.hid HST23.out.t.rw.b
        go_wp2_with (first
          | refine wpl_load rfl rfl stC rfl (ccells_len _) HC29.out ?_
          | (refine wpl_store rfl rfl stC.2 rfl rfl (cs := CC.cells ⟨op, .slice pa pl.length pcap, ps, c21, c22⟩) rfl (ccells_len _) HONEcc.out HX2.out (Nat.le_refl 29) (row := CC.cells ⟨op, .slice pa pl.length pcap, ps, c21, c22⟩) (by rw [List.take_zero, List.nil_append, List.drop_of_length_le (Nat.le_refl 29), List.append_nil]) ?_; generalize hW9 : World.setRow _ _ _ = w9; obtain ⟨hd9, hk9, hz9, hb9⟩ := setRow_of hW9 HX2.out; clear hW9; refine RowKit.Hid.out ?_))
        unfold RowKit.Hid
        repeat go_step
        refine bodyPost_ret (results_two rfl _ _ (w.heap.size + 1) _ _ _ _ _ rfl rfl hd9 Tryz.underlying46 rfl (by kernel_rfl)) rfl ⟨_, by rw [HF.out]; rfl, HONEcc.out, (fun _ => by rw [HF.out]; exact ⟨rfl, HPOS.out, ⟨by show _ ≤ op; omega, by show op ≤ _; omega⟩, (by have h := HIP.out; rw [HPOS.out] at h; exact h), HST23.out.t.rp.kept HST23.out.t.bp (fun b hb _ => hk9 b (by omega)) (by omega), HST23.out.t.bp.mono fun b hb => by omega, (HRA.out.kept (fun b hb _ => hk9 b (by omega)) (by omega)).mono fun b hb => by omega, (HRB.out.kept (fun b hb _ => hk9 b (by omega)) (by omega)).mono fun b hb => by omega⟩), HBW.out.trans (hb9 _ (by omega))⟩
    have y0 : wr.cell? ⟨g5, 0, none⟩ = some (.int .i64 c5.h.kind) := cell_of_row _ _ _ _ _ _ HA.out
    have y9 : wr.cell? ⟨g5, 9, none⟩ = some (.string c5.h.text) := cell_of_row _ _ _ _ _ _ HA.out
    by_cases h4 : c5.h.kind = 4
    case neg =>
      have hq : (c5.h.kind == 4) = false := by rw [beq_eq_false_iff_ne]; exact h4
      have HN : Hid (on (j + 1) = on j) := by unfold Hid; rw [HON.out]; simp [h4]
      clear h4
      go_wp2_with fail
      go_quiet (fail)
      go_wp2_with fail
      exact ⟨⟨j + 1, by omega, by go_num, by rw [HN.out]; exact HRW.out.below (drewNB _ _), HA.out, HB.out⟩, by simp [intOf]; omega⟩
    case pos =>
      have hq : (c5.h.kind == 4) = true := by rw [beq_iff_eq]; exact h4
      have HH4 := Lib.hid h4
      clear h4
      by_cases ht : c5.h.text = nameS ((j : Int) + 1)
      case pos =>
        have HN : Hid (on (j + 1) = (j : Int) + 1) := by unfold Hid; rw [HON.out]; simp only [HH4.out, if_true]; rw [opS, if_pos ht]
        have hqt : (c5.h.text.toList == (nameS ((j : Int) + 1)).toList) = true := by rw [ht]; exact beq_self_eq_true _
        clear ht
        go_wp2_with fail
        go_quiet ((go_at_call 17; exact Calls.quiet_of_same (name_q _ _)))
        have HX4 : Hid ((wr.drewN nq).heap[w.heap.size + 1 + 1]? = some (.cells (CC.cells ⟨on j, .slice none 0 0, 0, c0F, c0F⟩).toArray 46 (0, 0))) := HRW.out.x4
        go_wp2_with (refine wpl_store rfl rfl stI rfl rfl (cs := [.int .i64 ((j : Int) + 1)]) rfl rfl (by intro u hu; rw [List.mem_singleton.1 hu]; rfl) HX4.out (by rw [ccells_len]; decide) (row := CC.cells ⟨(j : Int) + 1, .slice none 0 0, 0, c0F, c0F⟩) rfl ?_; generalize hW4 : World.setRow _ _ _ = w8; obtain ⟨h81, h82, h83⟩ := RW.set (HRW.out.below (drewNB _ _)) hW4; clear hW4)
        exact ⟨⟨j + 1, by omega, by go_num, by rw [HN.out]; exact h81, (h82 _ (by have := HG5.out; omega)).trans HA.out, (h82 _ (by have := HG5.out; have := HG7.out; omega)).trans HB.out⟩, by simp [intOf]; omega⟩
      case neg =>
        have HN : Hid (on (j + 1) = on j) := by unfold Hid; rw [HON.out]; simp only [HH4.out, if_true]; rw [opS, if_neg ht]
        have hqt : (c5.h.text.toList == (nameS ((j : Int) + 1)).toList) = false := by
          rw [beq_eq_false_iff_ne]
          intro h
          rw [toList_L, toList_L] at h
          exact ht (L_inj h)
        clear ht
        go_wp2_with fail
        go_quiet ((go_at_call 17; exact Calls.quiet_of_same (name_q _ _)))
        go_wp2_with fail
        exact ⟨⟨j + 1, by omega, by go_num, by rw [HN.out]; exact HRW.out.below (drewNB _ _), HA.out, HB.out⟩, by simp [intOf]; omega⟩
end Go.Proofs.YtemiihkmpojpgaaGreatDoor

namespace Go.Proofs.YtemiihkmpojpgaaGreatDoor
open Go.RowKit
set_option maxHeartbeats 4000000
set_option maxRecDepth 100000

def lsV : V → List V
  | .mk _ l _ => l
/-- A change's numbers in a map of fields are in normal form. -/
def AtOk (x : V) : Prop := ∀ y, fieldF kAt (flV x) = some y → decB (hdV y).neg (L (hdV y).ds) (hdV y).exp = true ∧ (hdV y).ds.size ≤ 120 ∧ (hdV y).exp ≤ 400 ∧ -400 ≤ (hdV y).exp
/-- The changes that the values are, or the first error. -/
def readsL : List V → List Ch × Nat
  | [] => ([], 0)
  | x :: t => if (readC x).2 ≠ 0 then ([], (readC x).2) else if (readsL t).2 ≠ 0 then ([], (readsL t).2) else ((readC x).1 :: (readsL t).1, 0)
def readV (v : V) : List Ch × Nat := if (hdV v).kind ≠ 6 then ([], 6) else readsL (lsV v)
theorem reads_err : ∀ (l : List V) (k : Nat) (hk : k < l.length), (∀ i (hi : i < k), (readC (l[i]'(by omega))).2 = 0) → (readC l[k]).2 ≠ 0 → readsL l = ([], (readC l[k]).2)
  | x :: t, 0, _, _, h => by
    have h : (readC x).2 ≠ 0 := h
    rw [readsL, if_pos h]
    rfl
  | x :: t, k + 1, hk, h0, h => by
    have ih := reads_err t k (by simpa using hk) (fun i hi => h0 (i + 1) (by omega)) h
    have hx : (readC x).2 = 0 := h0 0 (by omega)
    have hk' : k < t.length := by simpa using hk
    have h : (readC t[k]).2 ≠ 0 := h
    rw [readsL, if_neg (by omega), ih]
    exact if_pos h
theorem reads_ok : ∀ (l : List V), (∀ i (hi : i < l.length), (readC l[i]).2 = 0) → readsL l = (l.map (fun x => (readC x).1), 0)
  | [], _ => rfl
  | x :: t, h => by
    have ih := reads_ok t (fun i hi => h (i + 1) (by simpa using hi))
    have hx : (readC x).2 = 0 := h 0 (by simp)
    rw [readsL, if_neg (by omega), ih, if_neg (fun h => h rfl)]
    rfl
theorem ls_rd {w : World} {S : Nat → Prop} {c : VC} {v : V} (h : RdI w S c v) : ∃ lc : Nat → VC, Sl w c.l (lsV v).length 13 (fun i => (lc i).cells) ∧ ∀ i (hi : i < (lsV v).length), RdI w S (lc i) (lsV v)[i] := by
  cases h with
  | mk h l f bv lv fv lc fc ok hb hl hL hf hK hF sb sl sf => exact ⟨lc, hl, hL⟩
theorem ls_small (v : V) : (lsV v).length ≤ nodV v ∧ ∀ i (hi : i < (lsV v).length), nodV (lsV v)[i] ≤ nodV v ∧ depV (lsV v)[i] ≤ depV v := by
  cases v with
  | mk h l f =>
    refine ⟨?_, fun i hi => ?_⟩
    · have := nodL_len l
      rw [nodV_mk]
      show l.length ≤ _
      omega
    · have h1 := nodL_at l i hi
      have h2 := depL_at l i hi
      rw [nodV_mk, depV_mk]
      show nodV l[i] ≤ _ ∧ depV l[i] ≤ _
      omega
theorem nil_rdl (w : World) : RdL w (.slice none 0 0) [] := by
  obtain ⟨lc, hsl, hrd, _⟩ := (OwnT.nil : OwnT 46 29 CC.cells RdC w 0 (.slice none 0 0) []).sl stbC ccells_len c00 (by simp)
  exact ⟨lc, hsl, fun i hi => (hrd i hi).any⟩
/-- What Read hands back. -/
def ReadsPost (w : World) (r : List Ch × Nat) (e : Ending) (w' : World) : Prop := ∃ s, e = .returned (.tuple #[s, .int .i64 (r.2 : Nat)]) ∧ RdL w' s r.1 ∧ Below w.heap.size w w'
theorem PRead_any (v : V) (c : VC) (w : World) (hn : nodV v ≤ 4096) (hd : depV v ≤ 60000) (hv : RdV w c v) (he : Env w) (hat : ∀ x ∈ lsV v, AtOk x) :
    Calls Tryz.prog 6 #[aggV c] w (ReadsPost w (readV v)) := by
  have hkc : c.h = hdV v := rd_head hv
  obtain ⟨lc, ⟨la, lcap, hle, hl1, ⟨hl2, _⟩, hl3, hl4⟩, hlr⟩ := ls_rd hv
  obtain ⟨hs1, hs2⟩ := ls_small v
  have HLE := Lib.hid hle
  have HCE := Lib.hid hl4
  have HRD := Lib.hid hlr
  have HSM := Lib.hid hs2
  have HE := Lib.hid he
  have HAT : Hid (∀ i (hi : i < (lsV v).length), AtOk (lsV v)[i]) := fun i hi => hat _ (List.getElem_mem hi)
  obtain ⟨r, hr⟩ : ∃ r, r = readV v := ⟨_, rfl⟩
  rw [← hr]
  unfold readV at hr
  rw [← hkc] at hr
  have HR := Lib.hid hr
  obtain ⟨h0, q1, q2, q3, n1, n2, n3, m1, m2, m3, hcf⟩ := hv.forms
  clear hv he hat hr hkc hle hl3 hl4 hlr hs2
  subst hcf
  dsimp only at HR HLE
  obtain ⟨a0, a1, a2, a3, a4, a5, a6, a7, a8, a9, a10⟩ := h0
  dsimp only at HR
  have hll : (lsV v).length ≤ 4096 := by omega
  have HN : Hid (nodV v ≤ 4096) := hn
  have HD : Hid (depV v ≤ 60000) := hd
  clear hn hd hs1
  obtain ⟨hx1, hx2, hx3⟩ : q2 = la ∧ n2 = (lsV v).length ∧ m2 = lcap := by simpa using HLE.out
  subst hx1 hx2 hx3
  clear HLE
  generalize lsV v = l at *
  go_enter Tryz.func6, Tryz.ntmps6
  go_upto_region 1 with fail
  generalize hW1 : World.alloc w _ = w1
  obtain ⟨ha1, -, hz1, hb1⟩ := alloc_of hW1
  obtain ⟨⟨x0, -, -, -, -, -, -, -, -, -, -, x11, -⟩, -⟩ := box13 ha1
  have HBW := Lib.hid hb1
  clear hW1 ha1 hz1 hb1
  by_cases hk6 : a0 = 6
  case neg =>
    have HF : Hid (r = ([], 6)) := by unfold Hid; rw [HR.out, if_pos hk6]
    have hq : (a0 != 6) = true := by rw [bne_iff_ne]; exact hk6
    clear HR hk6 HAT HE HRD HCE HSM
    go_wp2_with fail
    go_ret2
    exact ⟨_, by rw [HF.out]; rfl, by rw [HF.out]; exact nil_rdl _, HBW.out⟩
  subst hk6
  replace HR : Hid (r = readsL l) := by unfold Hid; rw [HR.out, if_neg (by decide)]
  go_wp2_with fail
  go_loopw [4, 19] (fun o iv wr => ∃ k : Nat, k ≤ l.length ∧ iv = .int .i64 (k : Int) ∧ OwnT 46 29 CC.cells RdC wr w.heap.size o ((l.take k).map (fun x => (readC x).1)) ∧ Below w.heap.size w wr ∧ Hid (∀ i (hi : i < l.length), i < k → (readC l[i]).2 = 0)) (fun _ iv _ => l.length - (intOf iv).toNat)
  case atStart => exact ⟨0, Nat.zero_le _, rfl, OwnT.nil, HBW.out, fun i _ h => absurd h (Nat.not_lt_zero _)⟩
  case round =>
    clear HBW x0 x11
    obtain ⟨k, hk, rfl, hown, hbw, HZ⟩ := hrel
    by_cases hlt : k < l.length
    case neg =>
      obtain rfl : k = l.length := by omega
      have HO : Hid (ReadsPost w r (.returned (.tuple #[u4, .int .i64 0])) wr) := by
        have hr := HR.out
        rw [reads_ok l (fun i hi => HZ.out i hi hi)] at hr
        rw [List.take_length] at hown
        obtain ⟨lc, hsl, hrd, _⟩ := hown.sl stbC ccells_len c00 (by rw [List.length_map]; omega)
        exact ⟨u4, by rw [hr]; rfl, by rw [hr]; exact ⟨lc, hsl, fun i hi => (hrd i hi).any⟩, hbw⟩
      clear hown HR HZ hbw HAT HE HRD HCE HSM
      go_wp2_with fail
      go_ret2
      exact HO.out
    obtain ⟨g, o, rfl, hg, hat⟩ := HCE.out (by omega)
    have HAT1 := Lib.hid (fun j hj => (hbw.cell hg).trans (hat k hlt j hj))
    have hrd := (HRD.out k hlt).stays hbw
    have HONE := Lib.hid (vc_one hrd.any)
    have hsm := HSM.out k hlt
    have HRC := Lib.hid (fun w' (hb : Below wr.heap.size wr w') => PRead1_any l[k] (lc k) w' (by have := HN.out; omega) (by have := HD.out; omega) (hrd.stays hb).any (HE.out.below (hbw.trans (hb.mono hbw.size))) (HAT.out k hlt))
    have HOWN := Lib.hid hown
    have HBLK := Lib.hid hown.blk
    have HBW := Lib.hid hbw
    have HTK : Hid ((l.take (k + 1)).map (fun x => (readC x).1) = (l.take k).map (fun x => (readC x).1) ++ [(readC l[k]).1]) := by
      unfold Hid
      rw [List.take_succ_eq_append_getElem hlt, List.map_append]
      rfl
    have HKL : Hid (((l.take k).map (fun x => (readC x).1)).length < 100000000000) := by
      unfold Hid
      rw [List.length_map, List.length_take]
      omega
    have HER := Lib.hid (fun h => HR.out.trans (reads_err l k hlt (fun i hi => HZ.out i (by omega) hi) h))
    clear hat hrd hown hbw hsm
    generalize hcx : lc k = cx at *
    generalize hrc : readC l[k] = rc at *
    have HRK := Lib.hid hrc
    clear hcx hrc
    go_upto_region 9 with (first
      | refine wpl_load rfl rfl stV rfl (cells_len _) HAT1.out ?_
      | (refine wpl_new rfl rfl stV rfl (cs := VC.cells cx) rfl (cells_len _) HONE.out rfl rfl rfl ?_; generalize hW5 : World.alloc wr _ = w5; obtain ⟨hd5, _, hz5, hb5⟩ := alloc_of hW5; have HD5 := Lib.hid hd5; have HZ5 := Lib.hid (Nat.le_of_eq hz5.symm); have HB5 := Lib.hid hb5; clear hW5 hd5 hz5 hb5))
    go_wp2_with (refine wpl_load rfl rfl stV rfl (cells_len _) (rowV HD5.out) ?_)
    refine (HRC.out _ HB5.out).mono ?_
    rintro e w6 ⟨c6, rfl, hone6, hrd6, hb6⟩
    obtain ⟨rx, rn⟩ := rc
    dsimp only at hrd6 HER HTK ⊢
    have HB6 := Lib.hid (HB5.out.trans (hb6.mono HB5.out.size))
    have HRD6 := Lib.hid hrd6
    have HONE6 := Lib.hid hone6
    have HZ6 : Hid (wr.heap.size ≤ w5.heap.size) := HB5.out.size
    clear hb6 hrd6 hone6 HRC HAT1 HD5 HZ5 HB5 HONE
    by_cases hz : rn = 0
    case neg =>
      have HF := Lib.hid (HER.out hz)
      have hq : ((rn : Int) != 0) = true := by rw [bne_iff_ne]; omega
      clear hz HER HR HZ HAT HE HRD HCE HSM HRK HRD6 HTK
      go_wp2_with (refine wpl_new rfl rfl stC rfl (cs := CC.cells c6) rfl (ccells_len _) HONE6.out rfl rfl rfl ?_; generalize hW5 : World.alloc w6 _ = w7; obtain ⟨hd7, -, hz7, hb7⟩ := alloc_of hW5; have HD7 := Lib.hid hd7; have HB7 := Lib.hid (HB6.out.trans (hb7.mono HB6.out.size)); have HS7 := Lib.hid hb7; clear hW5 hd7 hz7 hb7)
      go_ret2
      exact ⟨_, by rw [HF.out]; rfl, by rw [HF.out]; exact nil_rdl _, HBW.out.trans (HB7.out.mono HBW.out.size)⟩
    subst hz
    have HCX : Hid (RdC w6 (fun b => w.heap.size ≤ b ∧ some b ≠ u4.ownBlock) c6 rx) := by
      refine stbC.mono (HRD6.out rfl) (fun b hb => ?_)
      have h1 := HZ6.out
      have h2 := HBW.out.size
      exact ⟨by omega, fun h => by have := HBLK.out b h.symm; omega⟩
    have HZ' : Hid (∀ i (hi : i < l.length), i < k + 1 → (readC l[i]).2 = 0) := by
      intro i hi hik
      by_cases h : i = k
      · subst h
        rw [HRK.out]
      · exact HZ.out i hi (by omega)
    clear HER HR HZ HAT HE HRD HCE HSM HRK HRD6
    go_wp2_with (first
      | (at_builtin; obtain ⟨cs, hcl, hrow, hrds⟩ := HOWN.out.below stbC HB7.out; refine wp_push2 elemC rfl _ _ rfl hrow (CC.cells c6) (ccells_len _) HONE6.out rfl rfl HKL.out (Nat.le_trans HBW.out.size HB7.out.size) ?_; intro v9 w9 hn9 hg9 hb9 hf9; have HP9 := Lib.hid (OwnT.push stbC hcl hrds (HCX.out.stays HS7.out) hn9 hg9 hf9); have HB9 := Lib.hid ((HBW.out.trans (HB7.out.mono HBW.out.size)).trans hb9); clear hcl hrow hrds hn9 hg9 hb9 hf9)
      | (refine wpl_slice rfl rfl elemC rfl (cs := CC.cells c6) rfl (ccells_len _) (by decide) ?_)
      | refine wpl_load rfl rfl stC rfl (ccells_len _) (rowC HD7.out).2.1 ?_
      | (refine wpl_new rfl rfl stC rfl (cs := CC.cells c6) rfl (ccells_len _) HONE6.out rfl rfl rfl ?_; generalize hW5 : World.alloc w6 _ = w7; obtain ⟨hd7, -, hz7, hb7⟩ := alloc_of hW5; have HD7 := Lib.hid hd7; have HB7 := Lib.hid (HB6.out.trans (hb7.mono HB6.out.size)); have HS7 := Lib.hid hb7; clear hW5 hd7 hz7 hb7))
    exact ⟨⟨k + 1, by omega, by go_num, by rw [HTK.out]; exact HP9.out, HB9.out, HZ'.out⟩, by simp [intOf]; omega⟩
end Go.Proofs.YtemiihkmpojpgaaGreatDoor

namespace Go.Proofs.YtemiihkmpojpgaaGreatDoor
open Go.RowKit
set_option maxHeartbeats 16000000
set_option maxRecDepth 100000

theorem st27 : (Tryz.prog.info? 27).map (·.size) = some 1 := by kernel_rfl
abbrev c0V : VC := ⟨hdK 0, .slice none 0 0, .slice none 0 0, .slice none 0 0⟩
theorem v0_rd (w : World) (S : Nat → Prop) : RdI w S c0V v0 := leaf_rd (hdK 0) (okK 0 i64_0) rfl w S
theorem nameS_le (op : Int) : (nameS op).size ≤ 1000000000 := by
  unfold nameS
  repeat' split
  all_goals decide
theorem textL_le (l : List St) (h : validP l = true) : (textL l).length ≤ 400000 := by
  obtain ⟨hok, h48⟩ := all_ok h
  have key : ∀ p : List St, p.all okSt = true → (p.flatMap stepT).length ≤ 7000 * p.length := by
    intro p
    induction p with
    | nil => intro _; simp
    | cons s p ih =>
      intro hp
      simp only [List.all_cons, Bool.and_eq_true] at hp
      have h1 := stepT_len s hp.1
      have h2 := ih hp.2
      rw [List.flatMap_cons, List.length_append, List.length_cons]
      omega
  have hk := key l hok
  unfold textL
  split
  · simp
  · rw [List.length_append]
    have : (preT l).length ≤ 1 := by
      unfold preT
      split
      · split <;> simp
      · simp
    omega
theorem normL_bd (ng : Bool) (l : List UInt8) (e : Int) : (normL ng l e).ds.length ≤ 120 ∧ -400 ≤ (normL ng l e).e ∧ (normL ng l e).e ≤ 400 := by
  unfold normL normS badR
  split
  · exact ⟨by simp, by simp, by simp⟩
  split
  · exact ⟨by simp, by simp, by simp⟩
  · rename_i h
    refine ⟨?_, ?_, ?_⟩
    · simp only [List.length_take]; omega
    · show -400 ≤ e + _; omega
    · show e + _ ≤ 400; omega
theorem okI (n : Int) : HdOk (hdN (intR n).neg ⟨(intR n).ds.toArray⟩ (intR n).e) := by
  obtain ⟨h1, h2, h3⟩ := normL_bd false (numL n.toNat) 0
  refine okN _ _ _ ?_ ⟨?_, ?_⟩
  · show (intR n).ds.toArray.size ≤ _
    unfold intR
    simp
    omega
  · unfold intR; omega
  · unfold intR; omega
end Go.Proofs.YtemiihkmpojpgaaGreatDoor

namespace Go.Proofs.YtemiihkmpojpgaaGreatDoor
open Go.RowKit
set_option maxHeartbeats 8000000
set_option maxRecDepth 100000

/-- The words of the operators, in memory. -/
def WordsOk (w : World) : Prop := 0 < w.heap.size ∧ ∀ n : Nat, 1 ≤ n → n ≤ 4 → w.cell? ⟨0, n, none⟩ = some (.string (nameS n))
theorem WordsOk.below {w w' : World} (h : WordsOk w) (hb : Below w.heap.size w w') : WordsOk w' :=
  ⟨Nat.lt_of_lt_of_le h.1 hb.size, fun n h1 h2 => (hb.cell (p := ⟨_, n, none⟩) h.1).trans (h.2 n h1 h2)⟩
/-- The block g holds a map whose fields are the row F of one's own, from B on; the values in them lie below B0. -/
def MapR (w : World) (g B0 B : Nat) (F : Value) (fl : List (ByteArray × V)) : Prop :=
  w.heap[g]? = some (.cells (VC.cells ⟨hdK 7, .slice none 0 0, .slice none 0 0, F⟩).toArray 30 (0, 0)) ∧ OwnN 53 14 fcells RdF (fun b => b < B0) w B F fl ∧ F.ownBlock ≠ some g ∧ B ≤ g
theorem MapR.lt {w : World} {g B0 B : Nat} {F : Value} {fl : List (ByteArray × V)} (h : MapR w g B0 B F fl) : g < w.heap.size := by
  rcases Nat.lt_or_ge g w.heap.size with h' | h'
  · exact h'
  · have := h.1
    rw [Array.getElem?_eq_none h'] at this
    cases this
theorem MapR.below {w w' : World} {g B0 B : Nat} {F : Value} {fl : List (ByteArray × V)} (h : MapR w g B0 B F fl) (hb : Below w.heap.size w w') : MapR w' g B0 B F fl :=
  ⟨(hb.block g h.lt).trans h.1, h.2.1.below stbF hb, h.2.2⟩
/-- Where the region stands that lays the map: its box, if it is laid; the row of its fields, if it is laid. -/
def RS (w0 w : World) (R : List Value) (og oh : Option Nat) : Prop :=
  Below w0.heap.size w0 w ∧ (∀ g, og = some g → w0.heap.size ≤ g ∧ g < w.heap.size ∧ w.heap[g]? = some (.cells (VC.cells c0V).toArray 30 (0, 0))) ∧ (∀ h, oh = some h → w0.heap.size ≤ h ∧ h < w.heap.size ∧ w.heap[h]? = some (.cells R.toArray 53 (0, 0))) ∧ (∀ g, og = some g → oh ≠ some g)
theorem RS.below {w0 w w' : World} {R : List Value} {og oh : Option Nat} (h : RS w0 w R og oh) (hb : Below w.heap.size w w') : RS w0 w' R og oh :=
  ⟨h.1.trans (hb.mono h.1.size), fun g hg => ⟨(h.2.1 g hg).1, Nat.lt_of_lt_of_le (h.2.1 g hg).2.1 hb.size, (hb.block g (h.2.1 g hg).2.1).trans (h.2.1 g hg).2.2⟩, fun g hg => ⟨(h.2.2.1 g hg).1, Nat.lt_of_lt_of_le (h.2.2.1 g hg).2.1 hb.size, (hb.block g (h.2.2.1 g hg).2.1).trans (h.2.2.1 g hg).2.2⟩, h.2.2.2⟩
theorem RS.box {w0 w w' : World} {R : List Value} {oh : Option Nat} (h : RS w0 w R none oh) (hW : w.alloc (.cells (VC.cells c0V).toArray 30) = w') : RS w0 w' R (some w.heap.size) oh := by
  obtain ⟨ha, -, hz, hb⟩ := alloc_of hW
  refine ⟨h.1.trans (hb.mono h.1.size), fun g hg => ?_, (h.below hb).2.2.1, fun g hg hh => ?_⟩
  · cases hg
    exact ⟨h.1.size, by omega, ha⟩
  · cases hg
    have := (h.2.2.1 _ hh).2.1
    omega
theorem RS.row {w0 w w' : World} {R : List Value} {og : Option Nat} (h : RS w0 w R og none) (hW : w.alloc (.cells R.toArray 53) = w') : RS w0 w' R og (some w.heap.size) := by
  obtain ⟨ha, -, hz, hb⟩ := alloc_of hW
  refine ⟨h.1.trans (hb.mono h.1.size), (h.below hb).2.1, fun g hg => ?_, fun g hg hh => ?_⟩
  · cases hg
    exact ⟨h.1.size, by omega, ha⟩
  · cases hh
    have := (h.2.1 _ hg).2.1
    omega
/-- The map of two leaves, laid. -/
def MapPost (w0 : World) (B0 : Nat) (fl : List (ByteArray × V)) (v : Value) (w : World) : Prop := ∃ g F, v = .pointer (some ⟨g, 0, none⟩) ∧ MapR w g B0 w0.heap.size F fl ∧ Below w0.heap.size w0 w
theorem RS.map {w0 w w' : World} {k1 k2 : ByteArray} {h1 h2 : Hd} {B0 g h : Nat} (hs : RS w0 w (fcells (k1, ⟨h1, .slice none 0 0, .slice none 0 0, .slice none 0 0⟩) ++ fcells (k2, ⟨h2, .slice none 0 0, .slice none 0 0, .slice none 0 0⟩)) (some g) (some h)) (hk1 : k1.size ≤ 1000000000) (hk2 : k2.size ≤ 1000000000) (ok1 : HdOk h1) (ok2 : HdOk h2) (hb1 : h1.bytes = []) (hb2 : h2.bytes = [])
    (hW : w.setRow g (VC.cells ⟨hdK 7, .slice none 0 0, .slice none 0 0, .slice (some ⟨h, 0, none⟩) 2 2⟩).toArray = w') : MapPost w0 B0 [(k1, .mk h1 [] []), (k2, .mk h2 [] [])] (.pointer (some ⟨g, 0, none⟩)) w' := by
  obtain ⟨a1, a2, a3⟩ := hs.2.1 g rfl
  obtain ⟨b1, b2, b3⟩ := hs.2.2.1 h rfl
  have hne : h ≠ g := fun hh => hs.2.2.2 g rfl (by rw [hh])
  obtain ⟨c1, c2, c3, c4⟩ := setRow_of hW a3
  refine ⟨g, _, rfl, ⟨c1, ⟨[(k1, ⟨h1, .slice none 0 0, .slice none 0 0, .slice none 0 0⟩), (k2, ⟨h2, .slice none 0 0, .slice none 0 0, .slice none 0 0⟩)], rfl, ?_, fun i hi hi' => ?_⟩, fun hh => hne (by cases hh; rfl), a1⟩, hs.1.trans (c4 _ a1)⟩
  · refine ⟨rfl, .inr ⟨h, 2, _, rfl, b1, (c2 h hne).trans b3, Nat.le_refl _, by decide, rfl, ?_⟩⟩
    rfl
  · match i, hi, hi' with
    | 0, _, _ => exact ⟨rfl, hk1, leaf_rd h1 ok1 hb1 _ _⟩
    | 1, _, _ => exact ⟨rfl, hk2, leaf_rd h2 ok2 hb2 _ _⟩
/-- The map under way. -/
def MS (w0 w : World) (g B0 : Nat) (fl : List (ByteArray × V)) : Prop := ∃ F, MapR w g B0 w0.heap.size F fl ∧ Below w0.heap.size w0 w
theorem MS.below {w0 w w' : World} {g B0 : Nat} {fl : List (ByteArray × V)} (h : MS w0 w g B0 fl) (hb : Below w.heap.size w w') : MS w0 w' g B0 fl := by
  obtain ⟨F, h1, h2⟩ := h
  exact ⟨F, h1.below hb, h2.trans (hb.mono h2.size)⟩
theorem MS.b {w0 w : World} {g B0 : Nat} {fl : List (ByteArray × V)} (h : MS w0 w g B0 fl) : Below w0.heap.size w0 w := by
  obtain ⟨F, h1, h2⟩ := h
  exact h2
/-- One field more: the row grown, then stored. -/
theorem MS.push {w0 w w5 w6 : World} {g B0 : Nat} {F F' : Value} {fl : List (ByteArray × V)} {cs : List (ByteArray × VC)} {key : ByteArray} {c : VC} {x : V} (hB : B0 ≤ w0.heap.size) (hm : MapR w g B0 w0.heap.size F fl) (hb : Below w0.heap.size w0 w) (hcl : cs.length = fl.length)
    (hrd : ∀ i (h : i < fl.length) (h' : i < cs.length), RdF w (fun b => b < B0 ∧ some b ≠ F.ownBlock) cs[i] fl[i]) (hk : key.size ≤ 1000000000) (hx : RdI w (fun b => b < B0) c x) (hown : w5.ownsRow w0.heap.size 53 14 F' (fl.length + 1) (cs.flatMap fcells ++ fcells (key, c)))
    (hg : w.grownBy w5 F.ownBlock) (hb5 : Below w0.heap.size w w5) (hf : FreshRow w F F') (hW : w5.setRow g (VC.cells ⟨hdK 7, .slice none 0 0, .slice none 0 0, F'⟩).toArray = w6) : MS w0 w6 g B0 (fl ++ [(key, x)]) := by
  obtain ⟨m1, m2, m3, m4⟩ := hm
  have hgl : g < w.heap.size := MapR.lt ⟨m1, m2, m3, m4⟩
  have hblk := m2.blk
  have h5 := (hg.block g hgl (Ne.symm m3)).trans m1
  obtain ⟨c1, c2, c3, c4⟩ := setRow_of hW h5
  have hne : F'.ownBlock ≠ some g := by
    intro h
    rcases hf with hf | hf
    · rw [hf] at h; exact m3 h
    · have := hf g h; omega
  refine ⟨F', ⟨c1, OwnN.push (w := w) stbF hcl hrd (c := (key, c)) (x := (key, x)) ⟨rfl, hk, hx.mono fun b hb' => ⟨hb', fun h => by have := hblk b h.symm; omega⟩⟩ ?_ (fun b hT hb' hn => ?_) ?_ hf, hne, m4⟩, (hb.trans hb5).trans (c4 _ m4)⟩
  · exact hown.kept (row := some g) ⟨(c4 g (Nat.le_refl _)).os, (c4 g (Nat.le_refl _)).tape, (c4 g (Nat.le_refl _)).output, by omega, fun b hb hne => c2 b (fun h => hne (by rw [h]))⟩ (.inr (fun h => hne h))
  · exact (c2 b (by omega)).trans (hg.block b hb' hn)
  · have := hg.size; omega
theorem MapR.rd {w : World} {g B0 B : Nat} {F : Value} {fl : List (ByteArray × V)} (h : MapR w g B0 B F fl) (hl : fl.length ≤ 140737488351232) : RdI w (fun b => b < B0 ∨ B ≤ b) ⟨hdK 7, .slice none 0 0, .slice none 0 0, F⟩ (.mk (hdK 7) [] fl) := by
  have nb : ∀ S : Nat → Prop, BlkIn S (.slice none 0 0) := fun S g o p n cap hv _ => by cases hv
  obtain ⟨fc, h1, h2, h3⟩ := h.2.1.sl stbF fcells_len (⟨#[]⟩, c0V) hl (S := fun b => b < B0 ∨ B ≤ b) (fun b hb => .inl hb) (fun b hb _ => .inr hb)
  exact RdI.of_rows (okK 7 ⟨by decide, by decide⟩) Sl.nil (nb _) ⟨fun _ => c0V, Sl.nil, fun i hi => absurd hi (Nat.not_lt_zero _), nb _⟩ ⟨fc, h1, h2, h3⟩
/-- What written hands back. -/
def WdPost (w : World) (B : Nat) (x : Ch) (e : Ending) (w' : World) : Prop := ∃ c, e = .returned (aggV c) ∧ RdI w' (fun b => b < B ∨ w.heap.size ≤ b) c (wrV x) ∧ Below w.heap.size w w'
theorem written_any (x : Ch) (c : CC) (w : World) (B : Nat) (hB : B ≤ w.heap.size) (hx : RdC w (fun b => b < B) c x) (h1 : 1 ≤ x.op) (h4 : x.op ≤ 4) (hv : validP x.p = true) (hp0 : 0 ≤ x.pos) (hp1 : x.pos ≤ 65536) (hw : WordsOk w) :
    Calls Tryz.prog 28 #[aggC c] w (WdPost w B x) := by
  have HONEc := Lib.hid (ccells_one hx)
  have HOP : Hid (c.op = x.op) := hx.op
  have HPOS : Hid (c.pos = x.pos) := hx.pos
  have HRD := Lib.hid hx
  have HV := Lib.hid hv
  have HW := Lib.hid hw
  clear hx hv hw
  obtain ⟨op, p, pos, o1, n1⟩ := c
  obtain ⟨xop, xp, xpos, xo, xn⟩ := x
  obtain rfl : op = xop := HOP.out
  obtain rfl : pos = xpos := HPOS.out
  clear HOP HPOS
  obtain ⟨n, rfl⟩ := Int.eq_ofNat_of_zero_le (show (0 : Int) ≤ op from by dsimp only at h1; omega)
  obtain ⟨np, rfl⟩ := Int.eq_ofNat_of_zero_le hp0
  dsimp only at h1 h4 hp1
  clear hp0
  go_enter Tryz.func28, Tryz.ntmps28
  go_wp2_with fail
  generalize hW1 : World.alloc w _ = w1
  obtain ⟨ha1, -, hz1, hb1⟩ := alloc_of hW1
  generalize hW2 : World.alloc w1 _ = wm
  obtain ⟨ha2, -, hz2, hb2⟩ := alloc_of hW2
  have HCX : Hid (wm.heap[w.heap.size]? = some (.cells (CC.cells ⟨n, p, np, o1, n1⟩).toArray 46 (0, 0))) := (hb2.block _ (by omega)).trans ha1
  have HRX : Hid (wm.heap[w.heap.size + 1]? = some (.cells (VC.cells c0V).toArray 30 (0, 0))) := by rw [← hz1]; exact ha2
  have HBM : Hid (Below w.heap.size w wm) := hb1.trans (hb2.mono (by omega))
  have HZM : Hid (wm.heap.size = w.heap.size + 2) := by unfold Hid; omega
  clear hW1 hW2 ha1 ha2 hb1 hb2 hz1 hz2
  have HSW : Hid (∀ w', Below wm.heap.size wm w' → w'.cell? ⟨w.heap.size, 0, none⟩ = some (.int .i64 n) ∧ w'.cell? ⟨w.heap.size, 1, none⟩ = some p ∧ w'.cell? ⟨0, n, none⟩ = some (.string (nameS n))) := by
    intro w' hb
    obtain ⟨y0, y1, -⟩ := rowC5 ((hb.block w.heap.size (by rw [HZM.out]; omega)).trans HCX.out)
    exact ⟨y0, y1, ((HW.out.below HBM.out).below hb).2 n (by omega) (by omega)⟩
  have HRDP : Hid (∀ w', Below wm.heap.size wm w' → Rd w' p xp) := fun w' hb => ((HRD.out.stays HBM.out).stays hb).p
  have HT : Hid ((⟨(textL xp).toArray⟩ : ByteArray).size ≤ 1000000000) := by
    have := textL_le xp HV.out
    show (textL xp).toArray.size ≤ 1000000000
    simp
    omega
  have HONE7 : Hid (∀ h : Nat, ∀ u ∈ (VC.cells ⟨hdK 7, .slice none 0 0, .slice none 0 0, .slice (some ⟨h, 0, none⟩) 2 2⟩), u.oneCell' = true) := by
    intro h u hu
    simp only [VC.cells, List.mem_cons, List.not_mem_nil, or_false] at hu
    rcases hu with rfl | rfl | rfl | rfl | rfl | rfl | rfl | rfl | rfl | rfl | rfl | rfl | rfl <;> rfl
  go_upto_region 2 with fail
  go_cut [3] (fun v wx => MapPost wm B (wr2 ⟨n, xp, np, xo, xn⟩) v wx)
  case first =>
    refine wp_region_held_drew (S := fun w' => w'.cell? ⟨w.heap.size, 0, none⟩ = some (.int .i64 n) ∧ w'.cell? ⟨w.heap.size, 1, none⟩ = some p ∧ w'.cell? ⟨0, n, none⟩ = some (.string (nameS n))) (by kernel_rfl) (HSW.out _ (drewB wm)) (fun hHeld => ?_)
    have HS : Hid (RS wm wm.drew (fcells (kOp, ⟨hdT (nameS n), .slice none 0 0, .slice none 0 0, .slice none 0 0⟩) ++ fcells (kPath, ⟨hdT ⟨(textL xp).toArray⟩, .slice none 0 0, .slice none 0 0, .slice none 0 0⟩)) none none) := ⟨drewB wm, (fun g hg => by cases hg), (fun g hg => by cases hg), (fun g hg => by cases hg)⟩
    have hn0 : (0 : Int) ≤ (n : Int) := by omega
    have hn5 : (n : Int) < 5 := by omega
    clear h1 h4
    generalize wm.drew = wd at *
    refine take_at 0 (some 4) rfl rfl (by kernel_rfl) (by kernel_rfl) (by kernel_rfl) (fun _ _ _ h => h) (Or.inl ⟨by rfl, fun w hSw => by (obtain ⟨q0, q1, q2⟩ := hSw; go_simp; with_reducible rfl)⟩) hHeld ?_
    simp only [Act.put, List.setIfInBounds_toArray, List.set_cons_zero, List.set_cons_succ]
    refine take_at 1 (some 5) rfl rfl (by kernel_rfl) (by kernel_rfl) (by kernel_rfl) (fun _ _ _ h => h) (Or.inl ⟨by rfl, fun w hSw => by (obtain ⟨q0, q1, q2⟩ := hSw; go_simp; with_reducible rfl)⟩) hHeld ?_
    simp only [Act.put, List.setIfInBounds_toArray, List.set_cons_zero, List.set_cons_succ]
    refine take_at 2 (some 6) rfl rfl (by kernel_rfl) (by kernel_rfl) (by kernel_rfl) (fun _ _ _ h => h) (Or.inl ⟨by rfl, fun w hSw => by (obtain ⟨q0, q1, q2⟩ := hSw; go_simp; with_reducible rfl)⟩) hHeld ?_
    simp only [Act.put, List.setIfInBounds_toArray, List.set_cons_zero, List.set_cons_succ]
    refine take_at 3 (some 7) rfl rfl (by kernel_rfl) (by kernel_rfl) (by kernel_rfl) (fun _ _ _ h => h) (Or.inl ⟨by rfl, fun w hSw => by (obtain ⟨q0, q1, q2⟩ := hSw; go_simp; with_reducible rfl)⟩) hHeld ?_
    simp only [Act.put, List.setIfInBounds_toArray, List.set_cons_zero, List.set_cons_succ]
    refine take_at 6 (some 10) rfl rfl (by kernel_rfl) (by kernel_rfl) (by kernel_rfl) (fun _ _ _ h => h) (Or.inl ⟨by rfl, fun w hSw => by (obtain ⟨q0, q1, q2⟩ := hSw; go_simp; with_reducible rfl)⟩) hHeld ?_
    simp only [Act.put, List.setIfInBounds_toArray, List.set_cons_zero, List.set_cons_succ]
    refine take_at 7 (some 11) rfl rfl (by kernel_rfl) (by kernel_rfl) (by kernel_rfl) (fun _ _ _ h => h) (Or.inl ⟨by rfl, fun w hSw => by (obtain ⟨q0, q1, q2⟩ := hSw; go_simp; with_reducible rfl)⟩) hHeld ?_
    simp only [Act.put, List.setIfInBounds_toArray, List.set_cons_zero, List.set_cons_succ]
    refine wpAnyH_ready (rs := [4, 13]) (by kernel_rfl) (by simp) ?_
    refine AllReadyH.cons rfl (fun K hK => ?_) (AllReadyH.cons rfl (fun K hK => ?_) (AllReadyH.nil))
    · go_simp
      refine (RText56_any _ _).mono ?_
      rintro e w11 ⟨rfl, hb⟩
      replace HS := Lib.hid (HS.out.below hb)
      clear hb
      refine hK.out _ _ (HSW.out _ HS.out.1) (fun hHeld => ?_)
      clear hK K
      refine take_at 5 (some 9) rfl rfl (by kernel_rfl) (by kernel_rfl) (by kernel_rfl) (fun _ _ _ h => h) (Or.inl ⟨by rfl, fun w hSw => by (obtain ⟨q0, q1, q2⟩ := hSw; go_simp; with_reducible rfl)⟩) hHeld ?_
      simp only [Act.put, List.setIfInBounds_toArray, List.set_cons_zero, List.set_cons_succ]
      refine wpAnyH_ready (rs := [8, 13]) (by kernel_rfl) (by simp) ?_
      refine AllReadyH.cons rfl (fun K hK => ?_) (AllReadyH.cons rfl (fun K hK => ?_) (AllReadyH.nil))
      · go_simp
        refine (RText_any p xp _ (HRDP.out _ HS.out.1) HV.out).mono ?_
        rintro e w12 ⟨rfl, hb⟩
        replace HS := Lib.hid (HS.out.below hb)
        clear hb
        refine hK.out _ _ (HSW.out _ HS.out.1) (fun hHeld => ?_)
        clear hK K
        refine wpAnyH_ready (rs := [9, 13]) (by kernel_rfl) (by simp) ?_
        refine AllReadyH.cons rfl (fun K hK => ?_) (AllReadyH.cons rfl (fun K hK => ?_) (AllReadyH.nil))
        · go_simp
          refine (RText56_any _ _).mono ?_
          rintro e w13 ⟨rfl, hb⟩
          replace HS := Lib.hid (HS.out.below hb)
          clear hb
          refine hK.out _ _ (HSW.out _ HS.out.1) (fun hHeld => ?_)
          clear hK K
          refine take_at 10 (some 14) rfl rfl (by kernel_rfl) (by kernel_rfl) (by kernel_rfl) (fun _ _ _ h => h) (Or.inl ⟨by rfl, fun w hSw => by (obtain ⟨q0, q1, q2⟩ := hSw; go_simp; with_reducible rfl)⟩) hHeld ?_
          simp only [Act.put, List.setIfInBounds_toArray, List.set_cons_zero, List.set_cons_succ]
          refine wpAnyH_ready (rs := [11, 13]) (by kernel_rfl) (by simp) ?_
          refine AllReadyH.cons rfl (fun K hK => ?_) (AllReadyH.cons rfl (fun K hK => ?_) (AllReadyH.nil))
          · go_simp
            generalize hW : World.alloc _ _ = w14
            replace HS := Lib.hid (HS.out.row hW)
            clear hW
            generalize w13.heap.size = h at HS ⊢
            refine hK.out _ _ (HSW.out _ HS.out.1) (fun hHeld => ?_)
            clear hK K
            refine take_at 12 (some 16) rfl rfl (by kernel_rfl) (by kernel_rfl) (by kernel_rfl) (fun _ _ _ h => h) (Or.inl ⟨by rfl, fun w hSw => by (obtain ⟨q0, q1, q2⟩ := hSw; go_simp; with_reducible rfl)⟩) hHeld ?_
            simp only [Act.put, List.setIfInBounds_toArray, List.set_cons_zero, List.set_cons_succ]
            refine wpAnyH_ready (rs := [13]) (by kernel_rfl) (by simp) ?_
            refine AllReadyH.cons rfl (fun K hK => ?_) (AllReadyH.nil)
            go_simp
            generalize hW : World.alloc _ _ = w15
            replace HS := Lib.hid (HS.out.box hW)
            clear hW
            generalize w14.heap.size = g at HS ⊢
            refine hK.out _ _ (HSW.out _ HS.out.1) (fun hHeld => ?_)
            clear hK K
            refine wpAnyH_ready (rs := [14]) (by kernel_rfl) (by simp) ?_
            refine AllReadyH.cons rfl (fun K hK => ?_) AllReadyH.nil
            refine step_store (cs := VC.cells ⟨hdK 7, .slice none 0 0, .slice none 0 0, .slice (some ⟨h, 0, none⟩) 2 2⟩) _ rfl _ _ rfl stVk.2 g 0 rfl rfl rfl rfl (by intro u hu; exact HONE7.out h u hu) (HS.out.2.1 g rfl).2.2 (Nat.le_refl 13) rfl ?_
            generalize hW : World.setRow _ _ _ = wz
            have HFIN := Lib.hid (HS.out.map (B0 := B) (by decide) (by decide) (okT _ (nameS_le n)) (okT _ HT.out) rfl rfl hW)
            obtain ⟨g9, F9, hv9, hm9, hb9⟩ := HFIN.out
            refine hK.out _ _ (HSW.out _ hb9) (fun hHeld => ?_)
            clear hK K hHeld hv9 hm9 hb9 hW
            refine wpAnyH_done (by kernel_rfl) ?_ _
            go_wp2_with fail
            go_meet
            exact HFIN.out
          · go_simp
            generalize hW : World.alloc _ _ = w16
            replace HS := Lib.hid (HS.out.box hW)
            clear hW
            generalize w13.heap.size = g at HS ⊢
            refine hK.out _ _ (HSW.out _ HS.out.1) (fun hHeld => ?_)
            clear hK K
            refine wpAnyH_ready (rs := [11]) (by kernel_rfl) (by simp) ?_
            refine AllReadyH.cons rfl (fun K hK => ?_) (AllReadyH.nil)
            go_simp
            generalize hW : World.alloc _ _ = w17
            replace HS := Lib.hid (HS.out.row hW)
            clear hW
            generalize w16.heap.size = h at HS ⊢
            refine hK.out _ _ (HSW.out _ HS.out.1) (fun hHeld => ?_)
            clear hK K
            refine take_at 12 (some 16) rfl rfl (by kernel_rfl) (by kernel_rfl) (by kernel_rfl) (fun _ _ _ h => h) (Or.inl ⟨by rfl, fun w hSw => by (obtain ⟨q0, q1, q2⟩ := hSw; go_simp; with_reducible rfl)⟩) hHeld ?_
            simp only [Act.put, List.setIfInBounds_toArray, List.set_cons_zero, List.set_cons_succ]
            refine wpAnyH_ready (rs := [14]) (by kernel_rfl) (by simp) ?_
            refine AllReadyH.cons rfl (fun K hK => ?_) AllReadyH.nil
            refine step_store (cs := VC.cells ⟨hdK 7, .slice none 0 0, .slice none 0 0, .slice (some ⟨h, 0, none⟩) 2 2⟩) _ rfl _ _ rfl stVk.2 g 0 rfl rfl rfl rfl (by intro u hu; exact HONE7.out h u hu) (HS.out.2.1 g rfl).2.2 (Nat.le_refl 13) rfl ?_
            generalize hW : World.setRow _ _ _ = wz
            have HFIN := Lib.hid (HS.out.map (B0 := B) (by decide) (by decide) (okT _ (nameS_le n)) (okT _ HT.out) rfl rfl hW)
            obtain ⟨g9, F9, hv9, hm9, hb9⟩ := HFIN.out
            refine hK.out _ _ (HSW.out _ hb9) (fun hHeld => ?_)
            clear hK K hHeld hv9 hm9 hb9 hW
            refine wpAnyH_done (by kernel_rfl) ?_ _
            go_wp2_with fail
            go_meet
            exact HFIN.out
        · go_simp
          generalize hW : World.alloc _ _ = w18
          replace HS := Lib.hid (HS.out.box hW)
          clear hW
          generalize w12.heap.size = g at HS ⊢
          refine hK.out _ _ (HSW.out _ HS.out.1) (fun hHeld => ?_)
          clear hK K
          refine wpAnyH_ready (rs := [9]) (by kernel_rfl) (by simp) ?_
          refine AllReadyH.cons rfl (fun K hK => ?_) (AllReadyH.nil)
          go_simp
          refine (RText56_any _ _).mono ?_
          rintro e w19 ⟨rfl, hb⟩
          replace HS := Lib.hid (HS.out.below hb)
          clear hb
          refine hK.out _ _ (HSW.out _ HS.out.1) (fun hHeld => ?_)
          clear hK K
          refine take_at 10 (some 14) rfl rfl (by kernel_rfl) (by kernel_rfl) (by kernel_rfl) (fun _ _ _ h => h) (Or.inl ⟨by rfl, fun w hSw => by (obtain ⟨q0, q1, q2⟩ := hSw; go_simp; with_reducible rfl)⟩) hHeld ?_
          simp only [Act.put, List.setIfInBounds_toArray, List.set_cons_zero, List.set_cons_succ]
          refine wpAnyH_ready (rs := [11]) (by kernel_rfl) (by simp) ?_
          refine AllReadyH.cons rfl (fun K hK => ?_) (AllReadyH.nil)
          go_simp
          generalize hW : World.alloc _ _ = w20
          replace HS := Lib.hid (HS.out.row hW)
          clear hW
          generalize w19.heap.size = h at HS ⊢
          refine hK.out _ _ (HSW.out _ HS.out.1) (fun hHeld => ?_)
          clear hK K
          refine take_at 12 (some 16) rfl rfl (by kernel_rfl) (by kernel_rfl) (by kernel_rfl) (fun _ _ _ h => h) (Or.inl ⟨by rfl, fun w hSw => by (obtain ⟨q0, q1, q2⟩ := hSw; go_simp; with_reducible rfl)⟩) hHeld ?_
          simp only [Act.put, List.setIfInBounds_toArray, List.set_cons_zero, List.set_cons_succ]
          refine wpAnyH_ready (rs := [14]) (by kernel_rfl) (by simp) ?_
          refine AllReadyH.cons rfl (fun K hK => ?_) AllReadyH.nil
          refine step_store (cs := VC.cells ⟨hdK 7, .slice none 0 0, .slice none 0 0, .slice (some ⟨h, 0, none⟩) 2 2⟩) _ rfl _ _ rfl stVk.2 g 0 rfl rfl rfl rfl (by intro u hu; exact HONE7.out h u hu) (HS.out.2.1 g rfl).2.2 (Nat.le_refl 13) rfl ?_
          generalize hW : World.setRow _ _ _ = wz
          have HFIN := Lib.hid (HS.out.map (B0 := B) (by decide) (by decide) (okT _ (nameS_le n)) (okT _ HT.out) rfl rfl hW)
          obtain ⟨g9, F9, hv9, hm9, hb9⟩ := HFIN.out
          refine hK.out _ _ (HSW.out _ hb9) (fun hHeld => ?_)
          clear hK K hHeld hv9 hm9 hb9 hW
          refine wpAnyH_done (by kernel_rfl) ?_ _
          go_wp2_with fail
          go_meet
          exact HFIN.out
      · go_simp
        generalize hW : World.alloc _ _ = w21
        replace HS := Lib.hid (HS.out.box hW)
        clear hW
        generalize w11.heap.size = g at HS ⊢
        refine hK.out _ _ (HSW.out _ HS.out.1) (fun hHeld => ?_)
        clear hK K
        refine wpAnyH_ready (rs := [8]) (by kernel_rfl) (by simp) ?_
        refine AllReadyH.cons rfl (fun K hK => ?_) (AllReadyH.nil)
        go_simp
        refine (RText_any p xp _ (HRDP.out _ HS.out.1) HV.out).mono ?_
        rintro e w22 ⟨rfl, hb⟩
        replace HS := Lib.hid (HS.out.below hb)
        clear hb
        refine hK.out _ _ (HSW.out _ HS.out.1) (fun hHeld => ?_)
        clear hK K
        refine wpAnyH_ready (rs := [9]) (by kernel_rfl) (by simp) ?_
        refine AllReadyH.cons rfl (fun K hK => ?_) (AllReadyH.nil)
        go_simp
        refine (RText56_any _ _).mono ?_
        rintro e w23 ⟨rfl, hb⟩
        replace HS := Lib.hid (HS.out.below hb)
        clear hb
        refine hK.out _ _ (HSW.out _ HS.out.1) (fun hHeld => ?_)
        clear hK K
        refine take_at 10 (some 14) rfl rfl (by kernel_rfl) (by kernel_rfl) (by kernel_rfl) (fun _ _ _ h => h) (Or.inl ⟨by rfl, fun w hSw => by (obtain ⟨q0, q1, q2⟩ := hSw; go_simp; with_reducible rfl)⟩) hHeld ?_
        simp only [Act.put, List.setIfInBounds_toArray, List.set_cons_zero, List.set_cons_succ]
        refine wpAnyH_ready (rs := [11]) (by kernel_rfl) (by simp) ?_
        refine AllReadyH.cons rfl (fun K hK => ?_) (AllReadyH.nil)
        go_simp
        generalize hW : World.alloc _ _ = w24
        replace HS := Lib.hid (HS.out.row hW)
        clear hW
        generalize w23.heap.size = h at HS ⊢
        refine hK.out _ _ (HSW.out _ HS.out.1) (fun hHeld => ?_)
        clear hK K
        refine take_at 12 (some 16) rfl rfl (by kernel_rfl) (by kernel_rfl) (by kernel_rfl) (fun _ _ _ h => h) (Or.inl ⟨by rfl, fun w hSw => by (obtain ⟨q0, q1, q2⟩ := hSw; go_simp; with_reducible rfl)⟩) hHeld ?_
        simp only [Act.put, List.setIfInBounds_toArray, List.set_cons_zero, List.set_cons_succ]
        refine wpAnyH_ready (rs := [14]) (by kernel_rfl) (by simp) ?_
        refine AllReadyH.cons rfl (fun K hK => ?_) AllReadyH.nil
        refine step_store (cs := VC.cells ⟨hdK 7, .slice none 0 0, .slice none 0 0, .slice (some ⟨h, 0, none⟩) 2 2⟩) _ rfl _ _ rfl stVk.2 g 0 rfl rfl rfl rfl (by intro u hu; exact HONE7.out h u hu) (HS.out.2.1 g rfl).2.2 (Nat.le_refl 13) rfl ?_
        generalize hW : World.setRow _ _ _ = wz
        have HFIN := Lib.hid (HS.out.map (B0 := B) (by decide) (by decide) (okT _ (nameS_le n)) (okT _ HT.out) rfl rfl hW)
        obtain ⟨g9, F9, hv9, hm9, hb9⟩ := HFIN.out
        refine hK.out _ _ (HSW.out _ hb9) (fun hHeld => ?_)
        clear hK K hHeld hv9 hm9 hb9 hW
        refine wpAnyH_done (by kernel_rfl) ?_ _
        go_wp2_with fail
        go_meet
        exact HFIN.out
    · go_simp
      generalize hW : World.alloc _ _ = w25
      replace HS := Lib.hid (HS.out.box hW)
      clear hW
      generalize wd.heap.size = g at HS ⊢
      refine hK.out _ _ (HSW.out _ HS.out.1) (fun hHeld => ?_)
      clear hK K
      refine wpAnyH_ready (rs := [4]) (by kernel_rfl) (by simp) ?_
      refine AllReadyH.cons rfl (fun K hK => ?_) (AllReadyH.nil)
      go_simp
      refine (RText56_any _ _).mono ?_
      rintro e w26 ⟨rfl, hb⟩
      replace HS := Lib.hid (HS.out.below hb)
      clear hb
      refine hK.out _ _ (HSW.out _ HS.out.1) (fun hHeld => ?_)
      clear hK K
      refine take_at 5 (some 9) rfl rfl (by kernel_rfl) (by kernel_rfl) (by kernel_rfl) (fun _ _ _ h => h) (Or.inl ⟨by rfl, fun w hSw => by (obtain ⟨q0, q1, q2⟩ := hSw; go_simp; with_reducible rfl)⟩) hHeld ?_
      simp only [Act.put, List.setIfInBounds_toArray, List.set_cons_zero, List.set_cons_succ]
      refine wpAnyH_ready (rs := [8]) (by kernel_rfl) (by simp) ?_
      refine AllReadyH.cons rfl (fun K hK => ?_) (AllReadyH.nil)
      go_simp
      refine (RText_any p xp _ (HRDP.out _ HS.out.1) HV.out).mono ?_
      rintro e w27 ⟨rfl, hb⟩
      replace HS := Lib.hid (HS.out.below hb)
      clear hb
      refine hK.out _ _ (HSW.out _ HS.out.1) (fun hHeld => ?_)
      clear hK K
      refine wpAnyH_ready (rs := [9]) (by kernel_rfl) (by simp) ?_
      refine AllReadyH.cons rfl (fun K hK => ?_) (AllReadyH.nil)
      go_simp
      refine (RText56_any _ _).mono ?_
      rintro e w28 ⟨rfl, hb⟩
      replace HS := Lib.hid (HS.out.below hb)
      clear hb
      refine hK.out _ _ (HSW.out _ HS.out.1) (fun hHeld => ?_)
      clear hK K
      refine take_at 10 (some 14) rfl rfl (by kernel_rfl) (by kernel_rfl) (by kernel_rfl) (fun _ _ _ h => h) (Or.inl ⟨by rfl, fun w hSw => by (obtain ⟨q0, q1, q2⟩ := hSw; go_simp; with_reducible rfl)⟩) hHeld ?_
      simp only [Act.put, List.setIfInBounds_toArray, List.set_cons_zero, List.set_cons_succ]
      refine wpAnyH_ready (rs := [11]) (by kernel_rfl) (by simp) ?_
      refine AllReadyH.cons rfl (fun K hK => ?_) (AllReadyH.nil)
      go_simp
      generalize hW : World.alloc _ _ = w29
      replace HS := Lib.hid (HS.out.row hW)
      clear hW
      generalize w28.heap.size = h at HS ⊢
      refine hK.out _ _ (HSW.out _ HS.out.1) (fun hHeld => ?_)
      clear hK K
      refine take_at 12 (some 16) rfl rfl (by kernel_rfl) (by kernel_rfl) (by kernel_rfl) (fun _ _ _ h => h) (Or.inl ⟨by rfl, fun w hSw => by (obtain ⟨q0, q1, q2⟩ := hSw; go_simp; with_reducible rfl)⟩) hHeld ?_
      simp only [Act.put, List.setIfInBounds_toArray, List.set_cons_zero, List.set_cons_succ]
      refine wpAnyH_ready (rs := [14]) (by kernel_rfl) (by simp) ?_
      refine AllReadyH.cons rfl (fun K hK => ?_) AllReadyH.nil
      refine step_store (cs := VC.cells ⟨hdK 7, .slice none 0 0, .slice none 0 0, .slice (some ⟨h, 0, none⟩) 2 2⟩) _ rfl _ _ rfl stVk.2 g 0 rfl rfl rfl rfl (by intro u hu; exact HONE7.out h u hu) (HS.out.2.1 g rfl).2.2 (Nat.le_refl 13) rfl ?_
      generalize hW : World.setRow _ _ _ = wz
      have HFIN := Lib.hid (HS.out.map (B0 := B) (by decide) (by decide) (okT _ (nameS_le n)) (okT _ HT.out) rfl rfl hW)
      obtain ⟨g9, F9, hv9, hm9, hb9⟩ := HFIN.out
      refine hK.out _ _ (HSW.out _ hb9) (fun hHeld => ?_)
      clear hK K hHeld hv9 hm9 hb9 hW
      refine wpAnyH_done (by kernel_rfl) ?_ _
      go_wp2_with fail
      go_meet
      exact HFIN.out
  case rest =>
  obtain ⟨g, F, rfl, hm, hb⟩ := hcut
  have HS : Hid (MS wm wc g B (wr2 ⟨n, xp, np, xo, xn⟩)) := ⟨F, hm, hb⟩
  have HCELL : Hid (∀ w', Below wm.heap.size wm w' → _) := fun w' hb => rowC5 ((hb.block w.heap.size (by rw [HZM.out]; omega)).trans HCX.out)
  have HBZ : Hid (B ≤ wm.heap.size) := by unfold Hid; rw [HZM.out]; omega
  clear hm hb HSW HT HONE7
  have HW3 : Hid (wr3 ⟨n, xp, np, xo, xn⟩ = wr2 ⟨n, xp, np, xo, xn⟩ ++ if (movB n && lastK xp) = true then [(kAt, vI np)] else []) := rfl
  have HW4 : Hid (wr4 ⟨n, xp, np, xo, xn⟩ = wr3 ⟨n, xp, np, xo, xn⟩ ++ if oldB n = true then [(kOld, xo)] else []) := rfl
  have HW5 : Hid (wr5 ⟨n, xp, np, xo, xn⟩ = wr4 ⟨n, xp, np, xo, xn⟩ ++ if newB n = true then [(kNew, xn)] else []) := rfl
  have HLEN := Lib.hid (wr5_len ⟨n, xp, np, xo, xn⟩)
  have HL2 : Hid ((wr2 ⟨n, xp, np, xo, xn⟩).length < 1000) := Nat.lt_of_le_of_lt (Nat.le_refl 2) (by decide)
  have HWV : Hid (wrV ⟨n, xp, np, xo, xn⟩ = .mk (hdK 7) [] (wr5 ⟨n, xp, np, xo, xn⟩)) := rfl
  generalize wr5 ⟨n, xp, np, xo, xn⟩ = l5 at *
  generalize wr4 ⟨n, xp, np, xo, xn⟩ = l4 at *
  generalize wr3 ⟨n, xp, np, xo, xn⟩ = l3 at *
  generalize wr2 ⟨n, xp, np, xo, xn⟩ = l2 at *
  have HOLD : Hid (oldB n = !((n : Int) == 2)) := by unfold Hid oldB; rw [Bool.eq_iff_iff]; simp; omega
  have HNEW : Hid (newB n = ((n : Int) == 1 || (n : Int) == 2)) := by unfold Hid newB; rw [Bool.eq_iff_iff]; simp
  have HMV : Hid (movB n = decide ((n : Int) = 2 ∨ (n : Int) = 3)) := rfl
  have HBK := Lib.hid (fun w' (hb : Below wm.heap.size wm w') => byKey_any p xp w' (HRDP.out w' hb))
  generalize lastK xp = lk at *
  go_upto_region 2 with fail
  go_cut [23] (fun v wx => v = .bool (movB n && lk) ∧ MS wm wx g B l2)
  case first =>
    obtain ⟨-, -, -, y29, -, -⟩ := HCELL.out wc HS.out.b
    have Y29 := Lib.hid y29
    clear y29
    go_wp2_with (refine wpl_load rfl rfl stC rfl (ccells_len _) Y29.out ?_)
    refine (moves_any ⟨n, p, np, o1, n1⟩ _ (movB n) HMV.out).mono ?_
    rintro e w2 ⟨rfl, hb2⟩
    have HS2 := Lib.hid (HS.out.below hb2)
    clear hb2 HS Y29
    obtain ⟨-, y1, -⟩ := HCELL.out w2 HS2.out.b
    generalize movB n = mb at *
    cases mb with
    | false =>
      go_wp2_with fail
      go_meet
      exact ⟨rfl, HS2.out⟩
    | true =>
      go_wp2_with fail
      refine (HBK.out _ HS2.out.b).mono ?_
      rintro e w3 ⟨rfl, hb3⟩
      have HS3 := Lib.hid (HS2.out.below hb3)
      clear hb3 HS2 y1
      go_wp2_with fail
      go_meet
      exact ⟨rfl, HS3.out⟩
  case rest =>
  obtain ⟨rfl, hs⟩ := hcut
  clear HS
  have HS := Lib.hid hs
  clear hs
  generalize (movB n && lk) = kb at *
  go_upto_if 23 with fail
  go_cut [] (fun wx => MS wm wx g B l3)
  case first =>
    cases kb with
    | false =>
      have HF : Hid (MS wm wc g B l3) := by unfold Hid; rw [HW3.out]; simpa using HS.out
      go_wp2_with fail
      go_meet
      exact HF.out
    | true =>
      replace HW3 : Hid (l3 = l2 ++ [(kAt, vI np)]) := HW3.out
      obtain ⟨F, hm, hb⟩ := HS.out
      obtain ⟨cs0, -, hown0, -⟩ := hm.2.1
      obtain ⟨va, vcap, rfl⟩ := own_form hown0
      clear hown0
      have HM := Lib.hid hm
      have HBW := Lib.hid hb
      have HSX : Hid (∀ w', Below wm.heap.size wm w' → w'.cell? ⟨w.heap.size, 2, none⟩ = some (.int .i64 np)) := fun w' hb => (HCELL.out w' hb).2.2.1
      have HKEY : Hid (∀ u ∈ fcells (kAt, ⟨hdN (intR np).neg ⟨(intR np).ds.toArray⟩ (intR np).e, .slice none 0 0, .slice none 0 0, .slice none 0 0⟩), u.oneCell' = true) := by
        intro u hu
        rcases List.mem_cons.1 hu with rfl | hu
        · rfl
        · exact vc_one (leaf_rd (hdN (intR np).neg ⟨(intR np).ds.toArray⟩ (intR np).e) (okI np) rfl w (fun _ => True)) u hu
      have HLL : Hid (l2.length < 100000000000) := by unfold Hid; have := HL2.out; omega
      clear hm hb HS
      go_wp2_with fail
      refine wp_region_held_drew (S := fun w' => w'.cell? ⟨w.heap.size, 2, none⟩ = some (.int .i64 np)) (by kernel_rfl) (HSX.out _ (HBW.out.trans ((drewB wc).mono HBW.out.size))) (fun hHeld => ?_)
      replace HM := Lib.hid (HM.out.below (drewB wc))
      replace HBW := Lib.hid (HBW.out.trans ((drewB wc).mono HBW.out.size))
      generalize wc.drew = wd at *
      refine take_at 0 (some 24) rfl rfl (by kernel_rfl) (by kernel_rfl) (by kernel_rfl) (fun _ _ _ h => h) (Or.inl ⟨by rfl, fun w hSw => by (go_simp; with_reducible rfl)⟩) hHeld ?_
      simp only [Act.put, List.setIfInBounds_toArray, List.set_cons_zero, List.set_cons_succ]
      refine take_at 2 (some 26) rfl rfl (by kernel_rfl) (by kernel_rfl) (by kernel_rfl) (fun _ _ _ h => h) (Or.inl ⟨by rfl, fun w hSw => by (go_simp; with_reducible rfl)⟩) hHeld ?_
      simp only [Act.put, List.setIfInBounds_toArray, List.set_cons_zero, List.set_cons_succ]
      refine take_at 3 (some 27) rfl rfl (by kernel_rfl) (by kernel_rfl) (by kernel_rfl) (fun _ _ _ h => h) (Or.inl ⟨by rfl, fun w hSw => by (go_simp; with_reducible rfl)⟩) hHeld ?_
      simp only [Act.put, List.setIfInBounds_toArray, List.set_cons_zero, List.set_cons_succ]
      refine wpAnyH_ready (rs := [1, 4]) (by kernel_rfl) (by simp) ?_
      refine AllReadyH.cons rfl (fun K hK => ?_) (AllReadyH.cons rfl (fun K hK => ?_) (AllReadyH.nil))
      · obtain ⟨⟨-, -, -, -, -, -, -, -, -, -, -, -, x12⟩, -⟩ := box13 HM.out.1
        go_simp
        refine hK.out _ _ (HSX.out _ HBW.out) (fun hHeld => ?_)
        clear hK K x12
        refine wpAnyH_ready (rs := [4]) (by kernel_rfl) (by simp) ?_
        refine AllReadyH.cons rfl (fun K hK => ?_) (AllReadyH.nil)
        go_simp
        refine (RInt7_any np _ (by omega) (intR np) rfl).mono ?_
        rintro e x2 ⟨rfl, hb⟩
        replace HM := Lib.hid (HM.out.below hb)
        replace HBW := Lib.hid (HBW.out.trans (hb.mono HBW.out.size))
        clear hb
        obtain ⟨cs, hcl, hown, hrds⟩ := HM.out.2.1
        have HCL := Lib.hid hcl
        have HOWN := Lib.hid hown
        have HRS := Lib.hid hrds
        have HXV : Hid (RdI x2 (fun b => b < B) _ _) := leaf_rd (hdN (intR np).neg ⟨(intR np).ds.toArray⟩ (intR np).e) (okI np) rfl x2 _
        clear hcl hown hrds
        refine hK.out _ _ (HSX.out _ HBW.out) (fun hHeld => ?_)
        clear hK K
        refine take_at 5 (some 29) rfl rfl (by kernel_rfl) (by kernel_rfl) (by kernel_rfl) (fun _ _ _ h => h) (Or.inl ⟨by rfl, fun w hSw => by (go_simp; with_reducible rfl)⟩) hHeld ?_
        simp only [Act.put, List.setIfInBounds_toArray, List.set_cons_zero, List.set_cons_succ]
        refine wpAnyH_ready (rs := [6]) (by kernel_rfl) (by simp) ?_
        refine AllReadyH.cons rfl (fun K hK => ?_) (AllReadyH.nil)
        go_simp
        refine hK.out _ _ (HSX.out _ (HBW.out.trans (((Below.refl _ _).alloc (Nat.le_refl _) _).mono HBW.out.size))) (fun hHeld => ?_)
        clear hK K
        refine wpAnyH_ready (rs := [7]) (by kernel_rfl) (by simp) ?_
        refine AllReadyH.cons rfl (fun K hK => ?_) AllReadyH.nil
        refine step_push2 elemF (by rfl) _ _ (by rfl) HOWN.out (fcells (kAt, ⟨hdN (intR np).neg ⟨(intR np).ds.toArray⟩ (intR np).e, .slice none 0 0, .slice none 0 0, .slice none 0 0⟩)) (by rfl) HKEY.out (by rfl) (by rfl) HLL.out HBW.out.size ?_
        intro v5 w5 hown5 hg5 hb5 hf5 hq5
        clear hq5
        obtain ⟨va5, vcap5, rfl⟩ := own_form hown5
        have hgo5 := (hg5.block g HM.out.lt (Ne.symm HM.out.2.2.1)).trans HM.out.1
        refine hK.out _ _ (HSX.out _ (HBW.out.trans hb5)) (fun hHeld => ?_)
        clear hK K
        refine take_at 8 (some 32) rfl rfl (by kernel_rfl) (by kernel_rfl) (by kernel_rfl) (fun _ _ _ h => h) (Or.inl ⟨by rfl, fun w hSw => by (go_simp; with_reducible rfl)⟩) hHeld ?_
        simp only [Act.put, List.setIfInBounds_toArray]
        refine wpAnyH_ready (rs := [9]) (by kernel_rfl) (by simp) ?_
        refine AllReadyH.cons rfl (fun K hK => ?_) AllReadyH.nil
        refine step_store (cs := [.slice va5 (l2.length + 1) vcap5]) _ rfl _ _ rfl st28 g 12 rfl rfl rfl rfl (by intro u hu; rw [List.mem_singleton.1 hu]; rfl) hgo5 (Nat.le_refl 13) rfl ?_
        generalize hW6 : World.setRow _ _ _ = w6
        have HF : Hid (MS wm w6 g B l3) := by unfold Hid; rw [HW3.out]; exact MS.push HBZ.out HM.out HBW.out HCL.out HRS.out (by decide) HXV.out hown5 hg5 hb5 hf5 hW6
        refine hK.out _ _ (HSX.out _ HF.out.b) (fun hHeld => ?_)
        clear hK K hHeld hown5 hg5 hb5 hf5 hW6 hgo5
        refine wpAnyH_done (by kernel_rfl) ?_ _
        go_wp2_with fail
        go_meet
        exact HF.out
      · go_simp
        refine (RInt7_any np _ (by omega) (intR np) rfl).mono ?_
        rintro e x4 ⟨rfl, hb⟩
        replace HM := Lib.hid (HM.out.below hb)
        replace HBW := Lib.hid (HBW.out.trans (hb.mono HBW.out.size))
        clear hb
        obtain ⟨cs, hcl, hown, hrds⟩ := HM.out.2.1
        have HCL := Lib.hid hcl
        have HOWN := Lib.hid hown
        have HRS := Lib.hid hrds
        have HXV : Hid (RdI x4 (fun b => b < B) _ _) := leaf_rd (hdN (intR np).neg ⟨(intR np).ds.toArray⟩ (intR np).e) (okI np) rfl x4 _
        clear hcl hown hrds
        refine hK.out _ _ (HSX.out _ HBW.out) (fun hHeld => ?_)
        clear hK K
        refine take_at 5 (some 29) rfl rfl (by kernel_rfl) (by kernel_rfl) (by kernel_rfl) (fun _ _ _ h => h) (Or.inl ⟨by rfl, fun w hSw => by (go_simp; with_reducible rfl)⟩) hHeld ?_
        simp only [Act.put, List.setIfInBounds_toArray, List.set_cons_zero, List.set_cons_succ]
        refine wpAnyH_ready (rs := [1, 6]) (by kernel_rfl) (by simp) ?_
        refine AllReadyH.cons rfl (fun K hK => ?_) (AllReadyH.cons rfl (fun K hK => ?_) (AllReadyH.nil))
        · obtain ⟨⟨-, -, -, -, -, -, -, -, -, -, -, -, x12⟩, -⟩ := box13 HM.out.1
          go_simp
          refine hK.out _ _ (HSX.out _ HBW.out) (fun hHeld => ?_)
          clear hK K x12
          refine wpAnyH_ready (rs := [6]) (by kernel_rfl) (by simp) ?_
          refine AllReadyH.cons rfl (fun K hK => ?_) (AllReadyH.nil)
          go_simp
          refine hK.out _ _ (HSX.out _ (HBW.out.trans (((Below.refl _ _).alloc (Nat.le_refl _) _).mono HBW.out.size))) (fun hHeld => ?_)
          clear hK K
          refine wpAnyH_ready (rs := [7]) (by kernel_rfl) (by simp) ?_
          refine AllReadyH.cons rfl (fun K hK => ?_) AllReadyH.nil
          refine step_push2 elemF (by rfl) _ _ (by rfl) HOWN.out (fcells (kAt, ⟨hdN (intR np).neg ⟨(intR np).ds.toArray⟩ (intR np).e, .slice none 0 0, .slice none 0 0, .slice none 0 0⟩)) (by rfl) HKEY.out (by rfl) (by rfl) HLL.out HBW.out.size ?_
          intro v5 w5 hown5 hg5 hb5 hf5 hq5
          clear hq5
          obtain ⟨va5, vcap5, rfl⟩ := own_form hown5
          have hgo5 := (hg5.block g HM.out.lt (Ne.symm HM.out.2.2.1)).trans HM.out.1
          refine hK.out _ _ (HSX.out _ (HBW.out.trans hb5)) (fun hHeld => ?_)
          clear hK K
          refine take_at 8 (some 32) rfl rfl (by kernel_rfl) (by kernel_rfl) (by kernel_rfl) (fun _ _ _ h => h) (Or.inl ⟨by rfl, fun w hSw => by (go_simp; with_reducible rfl)⟩) hHeld ?_
          simp only [Act.put, List.setIfInBounds_toArray]
          refine wpAnyH_ready (rs := [9]) (by kernel_rfl) (by simp) ?_
          refine AllReadyH.cons rfl (fun K hK => ?_) AllReadyH.nil
          refine step_store (cs := [.slice va5 (l2.length + 1) vcap5]) _ rfl _ _ rfl st28 g 12 rfl rfl rfl rfl (by intro u hu; rw [List.mem_singleton.1 hu]; rfl) hgo5 (Nat.le_refl 13) rfl ?_
          generalize hW6 : World.setRow _ _ _ = w6
          have HF : Hid (MS wm w6 g B l3) := by unfold Hid; rw [HW3.out]; exact MS.push HBZ.out HM.out HBW.out HCL.out HRS.out (by decide) HXV.out hown5 hg5 hb5 hf5 hW6
          refine hK.out _ _ (HSX.out _ HF.out.b) (fun hHeld => ?_)
          clear hK K hHeld hown5 hg5 hb5 hf5 hW6 hgo5
          refine wpAnyH_done (by kernel_rfl) ?_ _
          go_wp2_with fail
          go_meet
          exact HF.out
        · go_simp
          refine hK.out _ _ (HSX.out _ (HBW.out.trans (((Below.refl _ _).alloc (Nat.le_refl _) _).mono HBW.out.size))) (fun hHeld => ?_)
          clear hK K
          refine wpAnyH_ready (rs := [1]) (by kernel_rfl) (by simp) ?_
          refine AllReadyH.cons rfl (fun K hK => ?_) (AllReadyH.nil)
          obtain ⟨⟨-, -, -, -, -, -, -, -, -, -, -, -, x12⟩, -⟩ := box13 HM.out.1
          have hgl := HM.out.lt
          go_simp
          refine hK.out _ _ (HSX.out _ (HBW.out.trans (((Below.refl _ _).alloc (Nat.le_refl _) _).mono HBW.out.size))) (fun hHeld => ?_)
          clear hK K x12 hgl
          refine wpAnyH_ready (rs := [7]) (by kernel_rfl) (by simp) ?_
          refine AllReadyH.cons rfl (fun K hK => ?_) AllReadyH.nil
          refine step_push2 elemF (by rfl) _ _ (by rfl) HOWN.out (fcells (kAt, ⟨hdN (intR np).neg ⟨(intR np).ds.toArray⟩ (intR np).e, .slice none 0 0, .slice none 0 0, .slice none 0 0⟩)) (by rfl) HKEY.out (by rfl) (by rfl) HLL.out HBW.out.size ?_
          intro v5 w5 hown5 hg5 hb5 hf5 hq5
          clear hq5
          obtain ⟨va5, vcap5, rfl⟩ := own_form hown5
          have hgo5 := (hg5.block g HM.out.lt (Ne.symm HM.out.2.2.1)).trans HM.out.1
          refine hK.out _ _ (HSX.out _ (HBW.out.trans hb5)) (fun hHeld => ?_)
          clear hK K
          refine take_at 8 (some 32) rfl rfl (by kernel_rfl) (by kernel_rfl) (by kernel_rfl) (fun _ _ _ h => h) (Or.inl ⟨by rfl, fun w hSw => by (go_simp; with_reducible rfl)⟩) hHeld ?_
          simp only [Act.put, List.setIfInBounds_toArray]
          refine wpAnyH_ready (rs := [9]) (by kernel_rfl) (by simp) ?_
          refine AllReadyH.cons rfl (fun K hK => ?_) AllReadyH.nil
          refine step_store (cs := [.slice va5 (l2.length + 1) vcap5]) _ rfl _ _ rfl st28 g 12 rfl rfl rfl rfl (by intro u hu; rw [List.mem_singleton.1 hu]; rfl) hgo5 (Nat.le_refl 13) rfl ?_
          generalize hW6 : World.setRow _ _ _ = w6
          have HF : Hid (MS wm w6 g B l3) := by unfold Hid; rw [HW3.out]; exact MS.push HBZ.out HM.out HBW.out HCL.out HRS.out (by decide) HXV.out hown5 hg5 hb5 hf5 hW6
          refine hK.out _ _ (HSX.out _ HF.out.b) (fun hHeld => ?_)
          clear hK K hHeld hown5 hg5 hb5 hf5 hW6 hgo5
          refine wpAnyH_done (by kernel_rfl) ?_ _
          go_wp2_with fail
          go_meet
          exact HF.out
  case rest =>
  clear HS
  have HS := Lib.hid hcut
  clear hcut
  obtain ⟨y0, -⟩ := HCELL.out wc HS.out.b
  obtain ⟨ob, hob⟩ : ∃ ob, ob = oldB n := ⟨_, rfl⟩
  have hq : ((n : Int) != 2) = ob := by rw [hob, HOLD.out]; rfl
  rw [← hob] at HW4
  clear hob HOLD
  go_upto_if 35 with fail
  clear y0 hq
  go_cut [] (fun wx => MS wm wx g B l4)
  case first =>
    cases ob with
    | false =>
      have HF : Hid (MS wm wc g B l4) := by unfold Hid; rw [HW4.out]; simpa using HS.out
      go_wp2_with fail
      go_meet
      exact HF.out
    | true =>
      replace HW4 : Hid (l4 = l3 ++ [(kOld, xo)]) := HW4.out
      obtain ⟨F, hm, hb⟩ := HS.out
      obtain ⟨cs, hcl, hown, hrds⟩ := hm.2.1
      obtain ⟨va, vcap, rfl⟩ := own_form hown
      obtain ⟨⟨-, -, -, -, -, -, -, -, -, -, -, -, x12⟩, -⟩ := box13 hm.1
      have HY : Hid (∀ j, j < 13 → wc.cell? ⟨w.heap.size, 3 + j, none⟩ = (o1).cells[j]?) := (HCELL.out wc hb).2.2.2.2.1
      have hxv := ((HRD.out.stays HBM.out).stays hb).o
      have HXV := Lib.hid hxv
      have HONEv := Lib.hid (vc_one hxv.any)
      have HM := Lib.hid hm
      have HB := Lib.hid hb
      have HCL := Lib.hid hcl
      have HOWN := Lib.hid hown
      have HRS := Lib.hid hrds
      have HKEY : Hid (∀ u ∈ fcells (kOld, o1), u.oneCell' = true) := by
        intro u hu
        rcases List.mem_cons.1 hu with rfl | hu
        · rfl
        · exact HONEv.out u hu
      have HGX : Hid (wc.heap[g]? = some (.cells (VC.cells ⟨hdK 7, .slice none 0 0, .slice none 0 0, .slice va l3.length vcap⟩).toArray 30 (0, 0))) := hm.1
      have HLL : Hid (l3.length < 100000000000) := by unfold Hid; have := HLEN.out; omega
      have HBS : Hid (wm.heap.size ≤ wc.heap.size) := hb.size
      have HNE : Hid (some g ≠ (Value.slice va l3.length vcap).ownBlock) := Ne.symm hm.2.2.1
      have HGL : Hid (g < wc.heap.size) := hm.lt
      clear hm hb hcl hown hrds hxv HS
      clear HRD HCX HCELL HONEc HONEv
      obtain ⟨⟨p0, p1, p2, p3, p4, p5, p6, p7, p8, p9, p10⟩, q1, q2, q3⟩ := o1
      go_wp2_with (first
        | refine wpl_load rfl rfl stVk rfl (cs := [.int .i64 p0, .bool p1, .bool p2, .string p3, .int .i64 p4, .int .i64 p5, .int .i64 p6, .int .i64 p7, .int .i64 p8, .string p9, q1, q2, q3]) rfl HY.out ?_
        | refine wpl_slice rfl rfl elemF rfl (cs := fcells (kOld, ⟨⟨p0, p1, p2, p3, p4, p5, p6, p7, p8, p9, p10⟩, q1, q2, q3⟩)) rfl rfl (by decide) ?_
        | (at_builtin; refine wp_push2 elemF rfl _ _ rfl HOWN.out (fcells (kOld, ⟨⟨p0, p1, p2, p3, p4, p5, p6, p7, p8, p9, p10⟩, q1, q2, q3⟩)) rfl HKEY.out rfl rfl HLL.out HBS.out ?_; intro v' w5 hown5 hg5 hb5 hf5; obtain ⟨va5, vcap5, rfl⟩ := own_form hown5; have HGO5 := Lib.hid ((hg5.block g HGL.out HNE.out).trans HGX.out); have HOWN5 := Lib.hid hown5; have HG5 := Lib.hid hg5; have HB5 := Lib.hid hb5; have HF5 := Lib.hid hf5; clear hown5 hg5 hb5 hf5)
        | (refine wpl_store rfl rfl st28 rfl rfl rfl rfl (by intro u hu; rw [List.mem_singleton.1 hu]; rfl) HGO5.out (Nat.le_refl 13) (row := VC.cells ⟨hdK 7, .slice none 0 0, .slice none 0 0, .slice va5 (l3.length + 1) vcap5⟩) rfl ?_; generalize hW6 : World.setRow _ _ _ = w6; have HF : Hid (MS wm w6 g B l4) := (by unfold Hid; rw [HW4.out]; exact MS.push HBZ.out HM.out HB.out HCL.out HRS.out (by decide) HXV.out HOWN5.out HG5.out HB5.out HF5.out hW6); clear hW6))
      go_meet
      exact HF.out
  case rest =>
  clear HS
  have HS := Lib.hid hcut
  clear hcut
  obtain ⟨nb, hnb⟩ : ∃ nb, nb = newB n := ⟨_, rfl⟩
  rw [← hnb] at HW5
  rw [← hnb] at HNEW
  clear hnb
  obtain ⟨wc', rfl⟩ : ∃ w' : World, w' = wc := ⟨_, rfl⟩
  go_upto_region 6 with fail
  go_cut [51] (fun v wx => v = .bool nb ∧ MS wm wx g B l4)
  case first =>
    obtain ⟨y0, -⟩ := HCELL.out wc' HS.out.b
    by_cases hn1 : (n : Int) = 1
    case pos =>
      have HF : Hid (nb = true) := by unfold Hid; rw [HNEW.out, hn1]; rfl
      have hq1 : ((n : Int) == 1) = true := by rw [hn1]; rfl
      clear hn1 HNEW
      go_wp2_with fail
      go_meet
      exact ⟨by rw [HF.out], HS.out⟩
    case neg =>
      have hq1 : ((n : Int) == 1) = false := by rw [beq_eq_false_iff_ne]; exact hn1
      have HF : Hid (nb = ((n : Int) == 2)) := by unfold Hid; rw [HNEW.out, hq1]; rfl
      clear hn1 HNEW
      go_wp2_with fail
      go_meet
      exact ⟨by rw [HF.out], HS.out⟩
  case rest =>
  obtain ⟨rfl, hs⟩ := hcut
  clear HS
  have HS := Lib.hid hs
  clear hs
  go_upto_if 51 with fail
  go_cut [] (fun wx => MS wm wx g B l5)
  case first =>
    cases nb with
    | false =>
      have HF : Hid (MS wm wc g B l5) := by unfold Hid; rw [HW5.out]; simpa using HS.out
      go_wp2_with fail
      go_meet
      exact HF.out
    | true =>
      replace HW5 : Hid (l5 = l4 ++ [(kNew, xn)]) := HW5.out
      obtain ⟨F, hm, hb⟩ := HS.out
      obtain ⟨cs, hcl, hown, hrds⟩ := hm.2.1
      obtain ⟨va, vcap, rfl⟩ := own_form hown
      obtain ⟨⟨-, -, -, -, -, -, -, -, -, -, -, -, x12⟩, -⟩ := box13 hm.1
      have HY : Hid (∀ j, j < 13 → wc.cell? ⟨w.heap.size, 16 + j, none⟩ = (n1).cells[j]?) := (HCELL.out wc hb).2.2.2.2.2
      have hxv := ((HRD.out.stays HBM.out).stays hb).n
      have HXV := Lib.hid hxv
      have HONEv := Lib.hid (vc_one hxv.any)
      have HM := Lib.hid hm
      have HB := Lib.hid hb
      have HCL := Lib.hid hcl
      have HOWN := Lib.hid hown
      have HRS := Lib.hid hrds
      have HKEY : Hid (∀ u ∈ fcells (kNew, n1), u.oneCell' = true) := by
        intro u hu
        rcases List.mem_cons.1 hu with rfl | hu
        · rfl
        · exact HONEv.out u hu
      have HGX : Hid (wc.heap[g]? = some (.cells (VC.cells ⟨hdK 7, .slice none 0 0, .slice none 0 0, .slice va l4.length vcap⟩).toArray 30 (0, 0))) := hm.1
      have HLL : Hid (l4.length < 100000000000) := by unfold Hid; have := HLEN.out; omega
      have HBS : Hid (wm.heap.size ≤ wc.heap.size) := hb.size
      have HNE : Hid (some g ≠ (Value.slice va l4.length vcap).ownBlock) := Ne.symm hm.2.2.1
      have HGL : Hid (g < wc.heap.size) := hm.lt
      clear hm hb hcl hown hrds hxv HS
      clear HRD HCX HCELL HONEc HONEv
      obtain ⟨⟨p0, p1, p2, p3, p4, p5, p6, p7, p8, p9, p10⟩, q1, q2, q3⟩ := n1
      go_wp2_with (first
        | refine wpl_load rfl rfl stVk rfl (cs := [.int .i64 p0, .bool p1, .bool p2, .string p3, .int .i64 p4, .int .i64 p5, .int .i64 p6, .int .i64 p7, .int .i64 p8, .string p9, q1, q2, q3]) rfl HY.out ?_
        | refine wpl_slice rfl rfl elemF rfl (cs := fcells (kNew, ⟨⟨p0, p1, p2, p3, p4, p5, p6, p7, p8, p9, p10⟩, q1, q2, q3⟩)) rfl rfl (by decide) ?_
        | (at_builtin; refine wp_push2 elemF rfl _ _ rfl HOWN.out (fcells (kNew, ⟨⟨p0, p1, p2, p3, p4, p5, p6, p7, p8, p9, p10⟩, q1, q2, q3⟩)) rfl HKEY.out rfl rfl HLL.out HBS.out ?_; intro v' w5 hown5 hg5 hb5 hf5; obtain ⟨va5, vcap5, rfl⟩ := own_form hown5; have HGO5 := Lib.hid ((hg5.block g HGL.out HNE.out).trans HGX.out); have HOWN5 := Lib.hid hown5; have HG5 := Lib.hid hg5; have HB5 := Lib.hid hb5; have HF5 := Lib.hid hf5; clear hown5 hg5 hb5 hf5)
        | (refine wpl_store rfl rfl st28 rfl rfl rfl rfl (by intro u hu; rw [List.mem_singleton.1 hu]; rfl) HGO5.out (Nat.le_refl 13) (row := VC.cells ⟨hdK 7, .slice none 0 0, .slice none 0 0, .slice va5 (l4.length + 1) vcap5⟩) rfl ?_; generalize hW6 : World.setRow _ _ _ = w6; have HF : Hid (MS wm w6 g B l5) := (by unfold Hid; rw [HW5.out]; exact MS.push HBZ.out HM.out HB.out HCL.out HRS.out (by decide) HXV.out HOWN5.out HG5.out HB5.out HF5.out hW6); clear hW6))
      go_meet
      exact HF.out
  case rest =>
  clear HS
  have HS := Lib.hid hcut
  clear hcut
  obtain ⟨F, hm, hb⟩ := HS.out
  have HMC : Hid (∀ j, j < 13 → wc.cell? ⟨g, 0 + j, none⟩ = (VC.cells ⟨hdK 7, .slice none 0 0, .slice none 0 0, F⟩)[j]?) := rowV hm.1
  have HRXc := Lib.hid ((hb.block _ (by rw [HZM.out]; omega)).trans HRX.out)
  have hrd := hm.rd (by have := HLEN.out; omega)
  have HONE := Lib.hid (vc_one hrd.any)
  have HRDF := Lib.hid hrd
  have HBB := Lib.hid (HBM.out.trans (hb.mono (by rw [HZM.out]; omega)))
  clear hm hb hrd HS
  go_wp2_with (first
    | refine wpl_load rfl rfl stVk rfl (cells_len _) HMC.out ?_
    | (refine wpl_store rfl rfl stVk.2 rfl rfl (cs := VC.cells ⟨hdK 7, .slice none 0 0, .slice none 0 0, F⟩) rfl (cells_len _) HONE.out HRXc.out (Nat.le_refl 13) (row := VC.cells ⟨hdK 7, .slice none 0 0, .slice none 0 0, F⟩) rfl ?_; generalize hW3 : World.setRow _ _ _ = w5; obtain ⟨hd3, hk3, hz3, hb3⟩ := setRow_of hW3 HRXc.out; clear hW3))
  obtain ⟨⟨z0, z1, z2, z3, z4, z5, z6, z7, z8, z9, z10, z11, z12⟩, zf⟩ := box13 hd3
  refine bodyPost_ret (v := aggV ⟨hdK 7, .slice none 0 0, .slice none 0 0, F⟩) (by simp [results, Tryz.results28, go_sem, z0, z1, z2, z3, z4, z5, z6, z7, z8, z9, z10, z11, z12]) rfl ⟨_, rfl, ?_, HBB.out.trans (hb3 _ (by omega))⟩
  rw [HWV.out]
  refine (HRDF.out.kept (fun b hb _ => hk3 b (by have := HZM.out; rcases hb with h | h <;> omega)) (by omega)).mono fun b hb => ?_
  have := HZM.out
  rcases hb with h | h
  · exact .inl h
  · exact .inr (by omega)
end Go.Proofs.YtemiihkmpojpgaaGreatDoor
