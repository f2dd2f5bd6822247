/- The law PatchReads walked. Conditions: the tables of strconv and math/bits, the error variable and the words of the operators as they are. -/
import Derived.Test.YtemiihkmpojpgaaGreatDoorZq26
import Derived.Test.YtemiihkmpojpgaaGreatDoorZq23
import Derived.Test.YtemiihkmpojpgaaGreatDoorZq17
namespace Go.Proofs.YtemiihkmpojpgaaGreatDoor
open Go.RowKit
set_option maxHeartbeats 8000000
set_option maxRecDepth 100000

theorem one_00 : ∀ u ∈ CC.cells c00, u.oneCell' = true := one_cc one_c0 one_c0 rfl
theorem stDk : StT Tryz.prog 23 3 := ⟨by kernel_rfl, by kernel_rfl⟩
/-- The value's box, and the result's. -/
structure RB (w w' : World) (cv : VC) : Prop where
  b : Below w.heap.size w w'
  x1 : w'.heap[w.heap.size]? = some (.cells (VC.cells cv).toArray 30 (0, 0))
  x2 : w'.heap[w.heap.size + 1]? = some (.cells (CC.cells c00).toArray 46 (0, 0))
  z : w.heap.size + 2 ≤ w'.heap.size
theorem RB.below {w w' w2 : World} {cv : VC} (h : RB w w' cv) (hb : Below w'.heap.size w' w2) : RB w w2 cv :=
  ⟨h.b.trans (hb.mono h.b.size), (hb.block _ (by have := h.z; omega)).trans h.x1, (hb.block _ (by have := h.z; omega)).trans h.x2, Nat.le_trans h.z hb.size⟩
/-- And the change under way. -/
structure RQ (w w' : World) (cv : VC) (g : Nat) (cc : CC) : Prop where
  rb : RB w w' cv
  x8 : w'.heap[g]? = some (.cells (CC.cells cc).toArray 46 (0, 0))
  g8 : w.heap.size + 2 ≤ g
theorem RQ.lt {w w' : World} {cv : VC} {g : Nat} {cc : CC} (h : RQ w w' cv g cc) : g < w'.heap.size := (Array.getElem?_eq_some_iff.1 h.x8).1
theorem RQ.below {w w' w2 : World} {cv : VC} {g : Nat} {cc : CC} (h : RQ w w' cv g cc) (hb : Below w'.heap.size w' w2) : RQ w w2 cv g cc :=
  ⟨h.rb.below hb, (hb.block _ h.lt).trans h.x8, h.g8⟩
theorem RQ.set {w w' w2 : World} {cv : VC} {g : Nat} {cc c2 : CC} (h : RQ w w' cv g cc) (hW : w'.setRow g (CC.cells c2).toArray = w2) : RQ w w2 cv g c2 ∧ (∀ b, b ≠ g → w2.heap[b]? = w'.heap[b]?) ∧ w2.heap.size = w'.heap.size := by
  obtain ⟨h1, h2, h3, h4⟩ := setRow_of hW h.x8
  have hg := h.g8
  exact ⟨⟨⟨h.rb.b.trans (h4 _ (by omega)), (h2 _ (by omega)).trans h.rb.x1, (h2 _ (by omega)).trans h.rb.x2, by have := h.rb.z; omega⟩, h1, hg⟩, h2, h3⟩
theorem box_below {w w2 : World} {g : Nat} {X : Obj} (h : w.heap[g]? = some X) (hb : Below w.heap.size w w2) : w2.heap[g]? = some X := (hb.block g (Array.getElem?_eq_some_iff.1 h).1).trans h
/-- The operator so far. -/
def opT (kd : Int) (t : ByteArray) : Nat → Int
  | 0 => 0
  | k + 1 => if kd = 4 then opS t k else 0
theorem opT_bd (kd : Int) (t : ByteArray) (k : Nat) (h : 1 ≤ k) : 0 ≤ opT kd t k ∧ opT kd t k + 1 ≤ k := by
  cases k with
  | zero => omega
  | succ k =>
    have := opS_bd t k
    show 0 ≤ (if kd = 4 then opS t k else 0) ∧ (if kd = 4 then opS t k else 0) + 1 ≤ ((k + 1 : Nat) : Int)
    split <;> omega
theorem opT_yes {kd : Int} {t : ByteArray} {k : Nat} (h1 : 1 ≤ k) (h : kd = 4) (ht : t = nameS (k : Int)) : opT kd t (k + 1) = k := by
  obtain ⟨j, rfl⟩ : ∃ j, k = j + 1 := ⟨k - 1, by omega⟩
  show (if kd = 4 then opS t (j + 1) else 0) = ((j + 1 : Nat) : Int)
  rw [if_pos h, opS, if_pos (by rw [ht]; rfl)]
  rfl
theorem opT_no {kd : Int} {t : ByteArray} {k : Nat} (h1 : 1 ≤ k) (h : kd ≠ 4 ∨ t ≠ nameS (k : Int)) : opT kd t (k + 1) = opT kd t k := by
  obtain ⟨j, rfl⟩ : ∃ j, k = j + 1 := ⟨k - 1, by omega⟩
  show (if kd = 4 then opS t (j + 1) else 0) = (if kd = 4 then opS t j else 0)
  by_cases hk : kd = 4
  · rw [if_pos hk, if_pos hk, opS, if_neg (by rcases h with h | h; exact absurd hk h; exact h)]
  · rw [if_neg hk, if_neg hk]
/-- And the path, and what is taken over. -/
structure RU (w w' : World) (S : Nat → Prop) (cv : VC) (g : Nat) (cc : CC) (pl : List St) (xo xn : V) : Prop where
  q : RQ w w' cv g cc
  p : Rd w' cc.p pl
  bp : BlkIn (fun b => g < b) cc.p
  o : RdI w' S cc.o xo
  n : RdI w' S cc.n xn
theorem RU.below {w w' w2 : World} {S : Nat → Prop} {cv : VC} {g : Nat} {cc : CC} {pl : List St} {xo xn : V} (h : RU w w' S cv g cc pl xo xn) (hb : Below w'.heap.size w' w2) : RU w w2 S cv g cc pl xo xn :=
  ⟨h.q.below hb, h.p.below hb, h.bp, h.o.stays hb, h.n.stays hb⟩
theorem RU.put {w w' w2 : World} {S : Nat → Prop} {cv : VC} {g : Nat} {cc c2 : CC} {pl : List St} {xo xn xo2 xn2 : V} (h : RU w w' S cv g cc pl xo xn) (hS : ∀ b, S b → b < w.heap.size) (hW : w'.setRow g (CC.cells c2).toArray = w2) (hp : c2.p = cc.p) (ho : RdI w' S c2.o xo2) (hn : RdI w' S c2.n xn2) : RU w w2 S cv g c2 pl xo2 xn2 := by
  obtain ⟨h1, h2, h3⟩ := h.q.set hW
  have hg := h.q.g8
  refine ⟨h1, ?_, ?_, ho.kept (fun b hb _ => h2 b (by have := hS b hb; omega)) (by omega), hn.kept (fun b hb _ => h2 b (by have := hS b hb; omega)) (by omega)⟩
  · rw [hp]
    exact h.p.kept h.bp (fun b hb _ => h2 b (by omega)) (by omega)
  · rw [hp]
    exact h.bp
theorem fit_no {f : List (ByteArray × V)} {op : Int} {p : List St} (h1 : (fieldF kAt f).isSome = true) (h2 : numV ((fieldF kAt f).getD v0) < 0) : fitF f op p = false := by
  unfold fitF
  rw [h1, decide_eq_true h2]
  cases (movB op && lastK p) <;> simp
theorem fit_at {f : List (ByteArray × V)} {op : Int} {p : List St} (h : fitF f op p = true) : (fieldF kAt f).isSome = (movB op && lastK p) := by
  unfold fitF at h
  simp only [Bool.and_eq_true, decide_eq_true_iff] at h
  exact h.1
theorem flV_wr (x : Ch) : flV (wrV x) = wr5 x := rfl
theorem fl_rd {w : World} {S : Nat → Prop} {c : VC} {v : V} (h : RdI w S c v) : ∃ fc : Nat → VC, Sl w c.f (flV v).length 14 (fun i => .string ((flV v).getD i (⟨#[]⟩, v)).1 :: (fc i).cells) := by
  cases h with
  | mk h l f bv lv fv lc fc ok hb hl hL hf hK hF sb sl sf => exact ⟨fc, hf⟩
theorem hasAll_no {f l : List (ByteArray × V)} {k : Nat} (hk : k < l.length) (h : (fieldF l[k].1 f).isSome = false) : hasAll f l = false := by
  unfold hasAll
  rw [List.all_eq_false]
  exact ⟨l[k], List.getElem_mem hk, by rw [h]; decide⟩
theorem hasAll_yes {f l : List (ByteArray × V)} (h : ∀ i (hi : i < l.length), (fieldF l[i].1 f).isSome = true) : hasAll f l = true := by
  unfold hasAll
  rw [List.all_eq_true]
  intro y hy
  obtain ⟨i, hi, rfl⟩ := List.getElem_of_mem hy
  exact h i hi
def FkPost (bs : Bool) (w : World) (e : Ending) (w' : World) : Prop := ∃ c, e = .returned (.tuple #[aggV c, .bool bs]) ∧ (∀ u ∈ VC.cells c, u.oneCell' = true) ∧ Below w.heap.size w w'
/-- What the reference's read hands back. -/
def RdPost (w : World) (S : Nat → Prop) (x : Ch × Nat) (e : Ending) (w' : World) : Prop := ∃ c, e = .returned (.tuple #[aggC c, .int .i64 (x.2 : Nat)]) ∧ (∀ u ∈ c.cells, u.oneCell' = true) ∧ (x.2 = 0 → RdC w' (fun b => S b ∨ w.heap.size ≤ b) c x.1) ∧ Below w.heap.size w w'
theorem RRead1_any (v : V) (c : VC) (w : World) (S : Nat → Prop) (hS : ∀ b, S b → b < w.heap.size) (hv : RdI w S c v) (hw : WordsOk w) (hat : AtOk v) (hl : (flV v).length ≤ 1000000) :
    Calls Tryz.prog 12 #[aggV c] w (RdPost w S (readC v)) := by
  have hkc : c.h = hdV v := rd_head hv
  have HSB := Lib.hid hS
  have HV := Lib.hid hv
  have HWD := Lib.hid hw
  have HAT : Hid (AtOk v) := hat
  have HLV := Lib.hid hl
  have HONEv := Lib.hid (vc_one hv.any)
  obtain ⟨r, hr⟩ : ∃ r, r = readC v := ⟨_, rfl⟩
  rw [← hr]
  unfold readC at hr
  rw [← hkc] at hr
  have HR := Lib.hid hr
  have HL3 := Lib.hid (fl_len hv)
  obtain ⟨h0, q1, q2, q3, n1, n2, n3, m1, m2, m3, hcf⟩ := hv.any.forms
  clear hv hw hat hr hkc hS hl
  subst hcf
  dsimp only at HR
  obtain ⟨a0, a1, a2, a3, a4, a5, a6, a7, a8, a9, a10⟩ := h0
  dsimp only at HR
  go_enter Tryz.func12, Tryz.ntmps12
  go_upto_region 1 with fail
  generalize hW1 : World.alloc w _ = w1
  obtain ⟨ha1, -, hz1, hb1⟩ := alloc_of hW1
  generalize hW2 : World.alloc w1 _ = w2
  obtain ⟨ha2, -, hz2, hb2⟩ := alloc_of hW2
  have hrb : RB w w2 ⟨⟨a0, a1, a2, a3, a4, a5, a6, a7, a8, a9, a10⟩, .slice q1 n1 m1, .slice q2 n2 m2, .slice q3 n3 m3⟩ :=
    ⟨hb1.trans (hb2.mono (by omega)), (hb2.block _ (by omega)).trans ha1, by rw [← hz1]; exact ha2, by omega⟩
  have HRB := Lib.hid hrb
  clear hW1 hW2 ha1 ha2 hb1 hb2 hz1 hz2 hrb
  obtain ⟨⟨x0, -, -, -, -, -, -, -, -, -, -, -, -⟩, -⟩ := box13 HRB.out.x1
  by_cases hk7 : a0 = 7
  case neg =>
    have HF : Hid (r = (ch0, 6)) := by unfold Hid; rw [HR.out, if_pos hk7]
    have hq : (a0 != 7) = true := by rw [bne_iff_ne]; exact hk7
    clear HR hk7 HAT HV HONEv HWD HSB
    have HX2 := Lib.hid HRB.out.x2
    have HBW := Lib.hid HRB.out.b
    skip
    go_wp2_with (refine wpl_store rfl rfl stC.2 rfl rfl (cs := CC.cells c00) rfl rfl one_00 HX2.out (Nat.le_refl 29) (row := CC.cells c00) rfl ?_; generalize hW9 : World.setRow _ _ _ = w9; obtain ⟨hd9, hk9, hz9, hb9⟩ := setRow_of hW9 HX2.out; clear hW9; refine RowKit.Hid.out ?_)
    unfold RowKit.Hid
    repeat go_step
    refine bodyPost_ret (results_two rfl _ _ (w.heap.size + 1) _ _ _ _ _ rfl rfl hd9 Tryz.underlying46 rfl (by kernel_rfl)) rfl ⟨c00, by rw [HF.out]; rfl, one_00, (fun h => by rw [HF.out] at h; exact absurd h (by decide)), HBW.out.trans (hb9 _ (by omega))⟩
  subst hk7
  have HFD : Hid (∀ key w', RB w w' ⟨⟨7, a1, a2, a3, a4, a5, a6, a7, a8, a9, a10⟩, .slice q1 n1 m1, .slice q2 n2 m2, .slice q3 n3 m3⟩ → Calls Tryz.prog 25 #[aggV ⟨⟨7, a1, a2, a3, a4, a5, a6, a7, a8, a9, a10⟩, .slice q1 n1 m1, .slice q2 n2 m2, .slice q3 n3 m3⟩, .string key] w' (FdPost w' S (fieldF key (flV v)))) := fun key w' hb => RField_any key v _ w' S (fun h => by have := HSB.out _ h; have := hb.z; omega) (HV.out.stays hb.b)
  have HR' : Hid (r = if opF (flV v) = 0 then (ch0, 3) else match pathF (flV v) with
    | none => (ch0, 3)
    | some t => if (parseL (L t)).2 ≠ 0 then (ch0, (parseL (L t)).2)
      else if fitF (flV v) (opF (flV v)) (parseL (L t)).1 = false then (ch0, 3)
      else if movB (opF (flV v)) = true ∧ (parseL (L t)).1 = [] then (ch0, 1)
      else (changeOf (flV v) (opF (flV v)) (parseL (L t)).1, 0)) := HR.out.trans (if_neg (by decide))
  clear HR
  have HR := HR'
  clear HR'
  go_upto_region 3 with fail
  clear x0
  have HC3 := Lib.hid (rowV HRB.out.x1)
  go_wp2_with (refine wpl_load rfl rfl stVk rfl (cells_len _) HC3.out ?_)
  refine (HFD.out kOp _ HRB.out).mono ?_
  rintro e w4 ⟨c5, rfl, hr5, hb4⟩
  have HR5 : Hid (c5.h = hdV ((fieldF kOp (flV v)).getD v0)) := rd_head hr5
  have HONE5 := Lib.hid (vc_one hr5.any)
  have HRB4 := Lib.hid (HRB.out.below hb4)
  clear hr5 hb4 HRB HC3
  go_upto_region 4 with (refine wpl_new rfl rfl stVk rfl (cs := VC.cells c5) rfl (cells_len _) HONE5.out rfl rfl rfl ?_; generalize hW1 : World.alloc w4 _ = w5; obtain ⟨ha5, -, hz5, hb5⟩ := alloc_of' hW1; have HA5 := Lib.hid ha5; have HRB5 := Lib.hid (HRB4.out.below hb5); have HZ5 := Lib.hid hz5; clear hW1 ha5 hb5 hz5)
  have HG5 : Hid (w.heap.size + 2 ≤ w4.heap.size) := HRB4.out.z
  generalize w4.heap.size = g5 at *
  clear HRB4
  have HC5 := Lib.hid (rowV HRB5.out.x1)
  go_wp2_with (refine wpl_load rfl rfl stVk rfl (cells_len _) HC5.out ?_)
  refine (HFD.out kPath _ HRB5.out).mono ?_
  rintro e w6 ⟨c7, rfl, hr7, hb6⟩
  have HR7 : Hid (c7.h = hdV ((fieldF kPath (flV v)).getD v0)) := rd_head hr7
  have HOK7 := Lib.hid (rd_ok hr7)
  have HONE7 := Lib.hid (vc_one hr7.any)
  have HRB6 := Lib.hid (HRB5.out.below hb6)
  have HA6 := Lib.hid (box_below HA5.out hb6)
  clear hr7 hb6 HC5 HRB5 HA5 HZ5
  go_upto_region 5 with (refine wpl_new rfl rfl stVk rfl (cs := VC.cells c7) rfl (cells_len _) HONE7.out rfl rfl rfl ?_; generalize hW1 : World.alloc w6 _ = w7; obtain ⟨ha7, -, hz7, hb7⟩ := alloc_of' hW1; have HB7 := Lib.hid ha7; have HRB7 := Lib.hid (HRB6.out.below hb7); have HA7 := Lib.hid (box_below HA6.out hb7); have HZ7 := Lib.hid hz7; clear hW1 ha7 hb7 hz7)
  have HG7 : Hid (g5 < w6.heap.size) := (Array.getElem?_eq_some_iff.1 HA6.out).1
  generalize w6.heap.size = g7 at *
  clear HRB6 HA6
  go_upto_region 6 with (refine wpl_new rfl rfl stC rfl (cs := CC.cells c00) rfl rfl one_00 rfl rfl rfl ?_; generalize hW1 : World.alloc w7 _ = w8; obtain ⟨ha8, -, hz8, hb8⟩ := alloc_of' hW1; have HX8 := Lib.hid ha8; have HRB8 := Lib.hid (HRB7.out.below hb8); have HA8 := Lib.hid (box_below HA7.out hb8); have HB8 := Lib.hid (box_below HB7.out hb8); clear hW1 ha8 hb8 hz8)
  have HG8 : Hid (g7 < w7.heap.size) := (Array.getElem?_eq_some_iff.1 HB7.out).1
  generalize w7.heap.size = g8 at *
  clear HRB7 HA7 HB7 HZ7
  have HQ8 : Hid (RQ w w8 ⟨⟨7, a1, a2, a3, a4, a5, a6, a7, a8, a9, a10⟩, .slice q1 n1 m1, .slice q2 n2 m2, .slice q3 n3 m3⟩ g8 ⟨opT c5.h.kind c5.h.text 1, .slice none 0 0, 0, c0F, c0F⟩) := by
    have h0 : opT c5.h.kind c5.h.text 1 = 0 := by
      show (if c5.h.kind = 4 then opS c5.h.text 0 else 0) = 0
      split <;> rfl
    rw [h0]
    exact ⟨HRB8.out, HX8.out, by have := HG5.out; have := HG7.out; have := HG8.out; omega⟩
  clear HX8 HRB8
  go_wp2_with fail
  go_loopw [9] (fun iv wr => ∃ k : Nat, 1 ≤ k ∧ k ≤ 5 ∧ iv = .int .i64 (k : Int) ∧ Hid (RQ w wr ⟨⟨7, a1, a2, a3, a4, a5, a6, a7, a8, a9, a10⟩, .slice q1 n1 m1, .slice q2 n2 m2, .slice q3 n3 m3⟩ g8 ⟨opT c5.h.kind c5.h.text k, .slice none 0 0, 0, c0F, c0F⟩) ∧ Hid (wr.heap[g5]? = some (.cells (VC.cells c5).toArray 30 (0, 0))) ∧ Hid (wr.heap[g7]? = some (.cells (VC.cells c7).toArray 30 (0, 0)))) (fun iv _ => (6 - intOf iv).toNat)
  case atStart => exact ⟨1, by omega, by omega, rfl, HQ8.out, HA8.out, HB8.out⟩
  case round =>
    clear HQ8 HA8 HB8
    obtain ⟨k, hk1, hk5, rfl, HQ, HA, HB⟩ := hrel
    by_cases hlt : k < 5
    case pos =>
      have y0 : wr.cell? ⟨g5, 0, none⟩ = some (.int .i64 c5.h.kind) := cell_of_row _ _ _ _ _ _ HA.out
      have y9 : wr.cell? ⟨g5, 9, none⟩ = some (.string c5.h.text) := cell_of_row _ _ _ _ _ _ HA.out
      have yw : wr.cell? ⟨0, k, none⟩ = some (.string (nameS k)) := (HWD.out.below HQ.out.rb.b).2 k hk1 (by omega)
      by_cases h4 : c5.h.kind = 4
      case neg =>
        have hq : (c5.h.kind == 4) = false := by rw [beq_eq_false_iff_ne]; exact h4
        have HN : Hid (opT c5.h.kind c5.h.text (k + 1) = opT c5.h.kind c5.h.text k) := opT_no hk1 (.inl h4)
        clear h4
        go_wp2_with fail
        go_quiet (fail)
        go_wp2_with fail
        exact ⟨⟨k + 1, by omega, by omega, by go_num, by rw [HN.out]; exact HQ.out.below (drewNB _ _), HA.out, HB.out⟩, by simp [intOf]; omega⟩
      case pos =>
        have hq : (c5.h.kind == 4) = true := by rw [beq_iff_eq]; exact h4
        by_cases ht : c5.h.text = nameS (k : Int)
        case pos =>
          have HN : Hid (opT c5.h.kind c5.h.text (k + 1) = (k : Int)) := opT_yes hk1 h4 ht
          have hqt : (c5.h.text.toList == (nameS (k : Int)).toList) = true := by rw [ht]; exact beq_self_eq_true _
          clear ht h4
          go_wp2_with fail
          go_quiet (fail)
          have HQn : Hid (RQ w (wr.drewN nq) ⟨⟨7, a1, a2, a3, a4, a5, a6, a7, a8, a9, a10⟩, .slice q1 n1 m1, .slice q2 n2 m2, .slice q3 n3 m3⟩ g8 ⟨opT c5.h.kind c5.h.text k, .slice none 0 0, 0, c0F, c0F⟩) := HQ.out.below (drewNB _ _)
          have HX8 := Lib.hid HQn.out.x8
          go_wp2_with (refine wpl_store rfl rfl stI rfl rfl (cs := [.int .i64 (k : Int)]) rfl rfl (by intro u hu; rw [List.mem_singleton.1 hu]; rfl) HX8.out (by rw [ccells_len]; decide) (row := CC.cells ⟨(k : Int), .slice none 0 0, 0, c0F, c0F⟩) rfl ?_; generalize hW4 : World.setRow _ _ _ = w8; obtain ⟨h81, h82, h83⟩ := RQ.set HQn.out hW4; clear hW4)
          exact ⟨⟨k + 1, by omega, by omega, by go_num, by rw [HN.out]; exact h81, (h82 _ (by have := HG8.out; have := HG7.out; omega)).trans HA.out, (h82 _ (by have := HG8.out; omega)).trans HB.out⟩, by simp [intOf]; omega⟩
        case neg =>
          have HN : Hid (opT c5.h.kind c5.h.text (k + 1) = opT c5.h.kind c5.h.text k) := opT_no hk1 (.inr ht)
          have hqt : (c5.h.text.toList == (nameS (k : Int)).toList) = false := by
            rw [beq_eq_false_iff_ne]
            intro h
            rw [toList_L, toList_L] at h
            exact ht (L_inj h)
          clear ht h4
          go_wp2_with fail
          go_quiet (fail)
          go_wp2_with fail
          exact ⟨⟨k + 1, by omega, by omega, by go_num, by rw [HN.out]; exact HQ.out.below (drewNB _ _), HA.out, HB.out⟩, by simp [intOf]; omega⟩
    obtain rfl : k = 5 := by omega
    have HOP : Hid (opT c5.h.kind c5.h.text 5 = opF (flV v)) := by
      unfold Hid opF opT
      rw [HR5.out]
      cases fieldF kOp (flV v) with
      | none => rfl
      | some x => rfl
    have HPT : Hid (pathF (flV v) = if c7.h.kind = 4 then some c7.h.text else none) := by
      unfold Hid pathF
      rw [HR7.out]
      cases fieldF kPath (flV v) with
      | none => rfl
      | some x => rfl
    have hob := opT_bd c5.h.kind c5.h.text 5 (by omega)
    rw [← HOP.out, HPT.out] at HR
    generalize opT c5.h.kind c5.h.text 5 = op at *
    clear HR5 HR7 HONE5 HONE7 HA
    obtain ⟨y0, -⟩ := rowC5 HQ.out.x8
    by_cases hop : op = 0
    case pos =>
      have HF : Hid (r = (ch0, 3)) := by unfold Hid; rw [HR.out, if_pos hop]
      have hq : (op == 0) = true := by rw [beq_iff_eq]; exact hop
      have HRB := Lib.hid HQ.out.rb
      clear HR hop hob HAT HV HFD HWD HSB
      have HX2 := Lib.hid HRB.out.x2
      have HBW := Lib.hid HRB.out.b
      skip
      go_wp2_with (refine wpl_store rfl rfl stC.2 rfl rfl (cs := CC.cells c00) rfl rfl one_00 HX2.out (Nat.le_refl 29) (row := CC.cells c00) rfl ?_; generalize hW9 : World.setRow _ _ _ = w9; obtain ⟨hd9, hk9, hz9, hb9⟩ := setRow_of hW9 HX2.out; clear hW9; refine RowKit.Hid.out ?_)
      unfold RowKit.Hid
      repeat go_step
      refine bodyPost_ret (results_two rfl _ _ (w.heap.size + 1) _ _ _ _ _ rfl rfl hd9 Tryz.underlying46 rfl (by kernel_rfl)) rfl ⟨c00, by rw [HF.out]; rfl, one_00, (fun h => by rw [HF.out] at h; exact absurd h (by decide)), HBW.out.trans (hb9 _ (by omega))⟩
    have hq : (op == 0) = false := by rw [beq_eq_false_iff_ne]; exact hop
    have HR2 : Hid (r = match (if c7.h.kind = 4 then some c7.h.text else none) with
      | none => (ch0, 3)
      | some t => if (parseL (L t)).2 ≠ 0 then (ch0, (parseL (L t)).2)
        else if fitF (flV v) op (parseL (L t)).1 = false then (ch0, 3)
        else if movB op = true ∧ (parseL (L t)).1 = [] then (ch0, 1)
        else (changeOf (flV v) op (parseL (L t)).1, 0)) := by unfold Hid; rw [HR.out, if_neg hop]
    clear HR
    have p0 : wr.cell? ⟨g7, 0, none⟩ = some (.int .i64 c7.h.kind) := cell_of_row _ _ _ _ _ _ HB.out
    by_cases h4 : c7.h.kind = 4
    case neg =>
      have HF : Hid (r = (ch0, 3)) := by unfold Hid; rw [HR2.out, if_neg h4]
      have hq4 : (c7.h.kind != 4) = true := by rw [bne_iff_ne]; exact h4
      have HRB := Lib.hid HQ.out.rb
      clear HR2 hop hob h4 HAT HV HFD HWD HSB
      have HX2 := Lib.hid HRB.out.x2
      have HBW := Lib.hid HRB.out.b
      skip
      go_wp2_with (refine wpl_store rfl rfl stC.2 rfl rfl (cs := CC.cells c00) rfl rfl one_00 HX2.out (Nat.le_refl 29) (row := CC.cells c00) rfl ?_; generalize hW9 : World.setRow _ _ _ = w9; obtain ⟨hd9, hk9, hz9, hb9⟩ := setRow_of hW9 HX2.out; clear hW9; refine RowKit.Hid.out ?_)
      unfold RowKit.Hid
      repeat go_step
      refine bodyPost_ret (results_two rfl _ _ (w.heap.size + 1) _ _ _ _ _ rfl rfl hd9 Tryz.underlying46 rfl (by kernel_rfl)) rfl ⟨c00, by rw [HF.out]; rfl, one_00, (fun h => by rw [HF.out] at h; exact absurd h (by decide)), HBW.out.trans (hb9 _ (by omega))⟩
    have hq4 : (c7.h.kind != 4) = false := by rw [bne_eq_false_iff_eq]; exact h4
    have HR : Hid (r = if (parseL (L c7.h.text)).2 ≠ 0 then (ch0, (parseL (L c7.h.text)).2)
        else if fitF (flV v) op (parseL (L c7.h.text)).1 = false then (ch0, 3)
        else if movB op = true ∧ (parseL (L c7.h.text)).1 = [] then (ch0, 1)
        else (changeOf (flV v) op (parseL (L c7.h.text)).1, 0)) := by unfold Hid; rw [HR2.out, if_pos h4]
    have HPE : Hid ((fieldF kPath (flV v)).isSome = true) := by
      have h := HPT.out
      rw [if_pos h4] at h
      unfold Hid
      unfold pathF at h
      cases ho : fieldF kPath (flV v) with
      | none => rw [ho] at h; cases h
      | some x => rfl
    have HOE : Hid ((fieldF kOp (flV v)).isSome = true) := by
      have h := HOP.out
      unfold Hid
      unfold opF at h
      cases ho : fieldF kOp (flV v) with
      | none => rw [ho] at h; exact absurd h hop
      | some x => rfl
    have p9 : wr.cell? ⟨g7, 9, none⟩ = some (.string c7.h.text) := cell_of_row _ _ _ _ _ _ HB.out
    have HTX : Hid (c7.h.text.size ≤ 1000000000) := HOK7.out.text
    have HPS := Lib.hid (parse_sound (L c7.h.text))
    clear HR2 h4 HOK7 HPT
    generalize c7.h.text = tx at *
    go_upto_region 13 with fail
    go_wp2_with fail
    refine (RParse_any tx _ HTX.out).mono ?_
    rintro e w8 ⟨pv, rfl, hown8, hb8⟩
    have HQ8 := Lib.hid (HQ.out.below hb8)
    have HRDP := Lib.hid (Rd.of_own hown8)
    have HBK := Lib.hid (BlkIn.of_own hown8)
    have HOWN := Lib.hid hown8
    have HZ8 : Hid (g8 < wr.heap.size) := HQ.out.lt
    have HZW : Hid (w.heap.size + 2 ≤ wr.heap.size) := HQ.out.rb.z
    clear hown8 hb8 HQ y0 p0 p9 HB
    obtain ⟨pa, pcap, rfl⟩ := own_formS HOWN.out
    generalize parseL (L tx) = px at *
    obtain ⟨pl, pn⟩ := px
    dsimp only at HR HPS HRDP HBK HOWN ⊢
    by_cases hpn : pn = 0
    case neg =>
      have HF : Hid (r = (ch0, pn)) := by unfold Hid; rw [HR.out, if_pos hpn]
      have hqe : ((pn : Int) != 0) = true := by rw [bne_iff_ne]; omega
      have HPN := Lib.hid hpn
      have HRB := Lib.hid HQ8.out.rb
      clear HR hpn HAT HV HFD HWD HSB
      have HX2 := Lib.hid HRB.out.x2
      have HBW := Lib.hid HRB.out.b
      skip
      go_wp2_with (refine wpl_store rfl rfl stC.2 rfl rfl (cs := CC.cells c00) rfl rfl one_00 HX2.out (Nat.le_refl 29) (row := CC.cells c00) rfl ?_; generalize hW9 : World.setRow _ _ _ = w9; obtain ⟨hd9, hk9, hz9, hb9⟩ := setRow_of hW9 HX2.out; clear hW9; refine RowKit.Hid.out ?_)
      unfold RowKit.Hid
      repeat go_step
      refine bodyPost_ret (results_two rfl _ _ (w.heap.size + 1) _ _ _ _ _ rfl rfl hd9 Tryz.underlying46 rfl (by kernel_rfl)) rfl ⟨c00, by rw [HF.out]; rfl, one_00, (fun h => by rw [HF.out] at h; exact absurd h HPN.out), HBW.out.trans (hb9 _ (by omega))⟩
    subst hpn
    obtain ⟨hva, -⟩ := HPS.out rfl
    have HVA := Lib.hid hva
    replace HR : Hid (r = if fitF (flV v) op pl = false then (ch0, 3) else if movB op = true ∧ pl = [] then (ch0, 1) else (changeOf (flV v) op pl, 0)) := by unfold Hid; rw [HR.out, if_neg (by decide)]
    clear hva HPS
    go_upto_region 17 with (refine wpl_store rfl rfl stP rfl rfl (cs := [.slice pa pl.length pcap]) rfl rfl (by intro u hu; rw [List.mem_singleton.1 hu]; rfl) HQ8.out.x8 (by rw [ccells_len]; decide) (row := CC.cells ⟨op, .slice pa pl.length pcap, 0, c0F, c0F⟩) rfl ?_; generalize hW4 : World.setRow _ _ _ = w9; obtain ⟨h91, h92, h93⟩ := RQ.set HQ8.out hW4; clear hW4)
    have HQ := Lib.hid h91
    have HRD9 : Hid (Rd w9 (.slice pa pl.length pcap) pl) := HRDP.out.kept HBK.out (fun b hb _ => h92 b (by have := HZ8.out; omega)) (by omega)
    have HBK9 : Hid (BlkIn (fun b => g8 < b) (.slice pa pl.length pcap)) := HBK.out.mono fun b hb => by have := HZ8.out; omega
    clear h91 h92 h93 HQ8 HRDP HBK HOWN HZ8 HZW
    have HU : Hid (RU w w9 S ⟨⟨7, a1, a2, a3, a4, a5, a6, a7, a8, a9, a10⟩, .slice q1 n1 m1, .slice q2 n2 m2, .slice q3 n3 m3⟩ g8 ⟨op, .slice pa pl.length pcap, 0, c0F, c0F⟩ pl v0 v0) := ⟨HQ.out, HRD9.out, HBK9.out, v0_rdF _ _, v0_rdF _ _⟩
    clear HQ HRD9 HBK9
    have HC := Lib.hid (rowV HU.out.q.rb.x1)
    go_wp2_with (refine wpl_load rfl rfl stVk rfl (cells_len _) HC.out ?_)
    refine (HFD.out kOld _ HU.out.q.rb).mono ?_
    rintro e w10 ⟨c12, rfl, hr, hb⟩
    have HR12 := Lib.hid hr
    have HONE12 := Lib.hid (vc_one hr.any)
    replace HU := Lib.hid (HU.out.below hb)
    clear hr hb HC
    go_upto_region 18 with (refine wpl_new rfl rfl stVk rfl (cs := VC.cells c12) rfl (cells_len _) HONE12.out rfl rfl rfl ?_; generalize hW1 : World.alloc w10 _ = w11; obtain ⟨ha, -, hz, hb⟩ := alloc_of' hW1; have HB12 := Lib.hid ha; have HUn := Lib.hid (HU.out.below hb); have HR12n := Lib.hid (HR12.out.stays hb); clear hW1 ha hz hb)
    have HG12 : Hid (g8 < w10.heap.size) := HU.out.q.lt
    generalize w10.heap.size = g12 at *
    clear HU HR12
    have HU := HUn
    have HR12 := HR12n
    clear HUn HR12n
    have HC := Lib.hid (rowV HU.out.q.rb.x1)
    go_wp2_with (refine wpl_load rfl rfl stVk rfl (cells_len _) HC.out ?_)
    refine (HFD.out kNew _ HU.out.q.rb).mono ?_
    rintro e w12 ⟨c14, rfl, hr, hb⟩
    have HR14 := Lib.hid hr
    have HONE14 := Lib.hid (vc_one hr.any)
    replace HU := Lib.hid (HU.out.below hb)
    replace HB12 := Lib.hid (box_below HB12.out hb)
    replace HR12 := Lib.hid (HR12.out.stays hb)
    clear hr hb HC
    go_upto_region 19 with (refine wpl_new rfl rfl stVk rfl (cs := VC.cells c14) rfl (cells_len _) HONE14.out rfl rfl rfl ?_; generalize hW1 : World.alloc w12 _ = w13; obtain ⟨ha, -, hz, hb⟩ := alloc_of' hW1; have HB14 := Lib.hid ha; have HUn := Lib.hid (HU.out.below hb); have HR14n := Lib.hid (HR14.out.stays hb); have HB12n := Lib.hid (box_below HB12.out hb); have HR12n := Lib.hid (HR12.out.stays hb); clear hW1 ha hz hb)
    have HG14 : Hid (g8 < w12.heap.size) := HU.out.q.lt
    generalize w12.heap.size = g14 at *
    clear HU HR14
    have HU := HUn
    have HR14 := HR14n
    clear HUn HR14n
    clear HB12 HR12
    have HB12 := HB12n
    have HR12 := HR12n
    clear HB12n HR12n
    have HC := Lib.hid (rowV HB12.out)
    have HX8 := Lib.hid HU.out.q.x8
    go_upto_region 20 with (first
      | refine wpl_load rfl rfl stVk rfl (cells_len _) HC.out ?_
      | (refine wpl_store rfl rfl stV.2 rfl rfl (cs := VC.cells c12) rfl (cells_len _) HONE12.out HX8.out (by rw [ccells_len]; decide) (row := CC.cells ⟨op, .slice pa pl.length pcap, 0, c12, c0F⟩) rfl ?_; generalize hW4 : World.setRow _ _ _ = w14; obtain ⟨-, hk, hz⟩ := RQ.set HU.out.q hW4; have HUn := Lib.hid (HU.out.put HSB.out hW4 rfl HR12.out HU.out.n); have HB14n := Lib.hid ((hk _ (by have := HG14.out; omega)).trans HB14.out); have HR14n := Lib.hid (HR14.out.kept (fun b hb _ => hk b (by have := HSB.out b hb; have := HU.out.q.g8; omega)) (by omega)); clear hW4 hk hz))
    clear HU HC HX8
    have HU := HUn
    clear HUn
    clear HB14 HR14
    have HB14 := HB14n
    have HR14 := HR14n
    clear HB14n HR14n
    clear HB12 HR12 HONE12
    have HC := Lib.hid (rowV HB14.out)
    have HX8 := Lib.hid HU.out.q.x8
    go_upto_region 21 with (first
      | refine wpl_load rfl rfl stVk rfl (cells_len _) HC.out ?_
      | (refine wpl_store rfl rfl stV.2 rfl rfl (cs := VC.cells c14) rfl (cells_len _) HONE14.out HX8.out (by rw [ccells_len]; decide) (row := CC.cells ⟨op, .slice pa pl.length pcap, 0, c12, c14⟩) rfl ?_; generalize hW4 : World.setRow _ _ _ = w15; obtain ⟨-, hk, hz⟩ := RQ.set HU.out.q hW4; have HUn := Lib.hid (HU.out.put HSB.out hW4 rfl HU.out.o HR14.out); clear hW4 hk hz))
    clear HU HC HX8
    have HU := HUn
    clear HUn
    clear HB14 HR14 HONE14
    have HC := Lib.hid (rowV HU.out.q.rb.x1)
    go_wp2_with (refine wpl_load rfl rfl stVk rfl (cells_len _) HC.out ?_)
    refine (HFD.out kAt _ HU.out.q.rb).mono ?_
    rintro e w16 ⟨c16, rfl, hr, hb⟩
    have HR16 := Lib.hid hr
    have HONE16 := Lib.hid (vc_one hr.any)
    replace HU := Lib.hid (HU.out.below hb)
    clear hr hb HC
    go_upto_region 22 with (refine wpl_new rfl rfl stVk rfl (cs := VC.cells c16) rfl (cells_len _) HONE16.out rfl rfl rfl ?_; generalize hW1 : World.alloc w16 _ = w17; obtain ⟨ha, -, hz, hb⟩ := alloc_of' hW1; have HB16 := Lib.hid ha; have HUn := Lib.hid (HU.out.below hb); have HR16n := Lib.hid (HR16.out.stays hb); clear hW1 ha hz hb)
    have HG16 : Hid (g8 < w16.heap.size) := HU.out.q.lt
    generalize w16.heap.size = g16 at *
    clear HU HR16
    have HU := HUn
    have HR16 := HR16n
    clear HUn HR16n
    have HD16 : Hid (decB c16.h.neg (L c16.h.ds) c16.h.exp = true ∧ c16.h.ds.size ≤ 120 ∧ c16.h.exp ≤ 400 ∧ -400 ≤ c16.h.exp) := by
      have hh := rd_head HR16.out
      unfold Hid
      rw [hh]
      cases ho : fieldF kAt (flV v) with
      | none => exact ⟨rfl, by decide, by decide, by decide⟩
      | some x => exact HAT.out x ho
    have HNV : Hid (numI c16.h.kind (numD c16.h.neg (L c16.h.ds) c16.h.exp) = numV ((fieldF kAt (flV v)).getD v0)) := by
      have hh := rd_head HR16.out
      unfold Hid numV
      rw [hh]
    have HC : Hid (∀ j, j < 3 → w17.cell? ⟨g16, 2 + j, none⟩ = [Value.bool c16.h.neg, .string c16.h.ds, .int .i64 c16.h.exp][j]?) := by
      intro j hj
      have h := rowV HB16.out (2 + j) (by omega)
      rw [Nat.zero_add] at h
      rw [h]
      rcases j with _ | _ | _ | j
      · rfl
      · rfl
      · rfl
      · omega
    have HTI := Lib.hid (ToInt2_any c16.h.neg c16.h.ds c16.h.exp w17 HD16.out.1 HD16.out.2.2.1 HD16.out.2.1 HD16.out.2.2.2)
    go_upto_region 23 with (first
      | refine wpl_load rfl rfl stDk rfl (cs := [.bool c16.h.neg, .string c16.h.ds, .int .i64 c16.h.exp]) rfl HC.out ?_
      | (go_at_call 27; refine HTI.out.mono ?_; rintro e w18 ⟨n, f, rfl, ht1, ht2, hb⟩; have HT1 := Lib.hid ht1; have HT2 := Lib.hid ht2; have HUn := Lib.hid (HU.out.below hb); have HBn := Lib.hid (box_below HB16.out hb); clear ht1 ht2 hb))
    clear HU HB16 HTI HC
    have HU := HUn
    have HB16 := HBn
    clear HUn HBn
    have k0 : w18.cell? ⟨g16, 0, none⟩ = some (.int .i64 c16.h.kind) := cell_of_row _ _ _ _ _ _ HB16.out
    go_cut [119] (fun q wx => q = .bool ((fieldF kAt (flV v)).isSome && decide (numV ((fieldF kAt (flV v)).getD v0) < 0)) ∧ w18 = wx)
    case first =>
      clear HR HAT HFD HD16 HV HWD HSB HU HB16 HR16
      generalize (fieldF kAt (flV v)).isSome = ba at *
      generalize numV ((fieldF kAt (flV v)).getD v0) = nv at *
      cases ba with
      | false =>
        go_wp2_with fail
        go_meet
        exact ⟨rfl, rfl⟩
      | true =>
      by_cases h2 : c16.h.kind = 2
      case neg =>
        have hq2 : (c16.h.kind != 2) = true := by rw [bne_iff_ne]; exact h2
        have HX : Hid (decide (nv < 0) = true) := by
          have h := HNV.out
          rw [numI_no (.inl h2)] at h
          unfold Hid
          rw [decide_eq_true_iff]
          omega
        clear h2 HNV HT1 HT2
        go_wp2_with fail
        go_meet
        exact ⟨by rw [HX.out]; rfl, rfl⟩
      have hq2 : (c16.h.kind != 2) = false := by rw [bne_eq_false_iff_eq]; exact h2
      cases ho : numD c16.h.neg (L c16.h.ds) c16.h.exp with
      | some m =>
        obtain ⟨hn1, hf1⟩ := HT1.out m ho
        have h := HNV.out
        rw [ho] at h
        unfold numI at h
        rw [if_pos h2] at h
        dsimp only at h
        have HX : Hid (decide (nv < 0) = false) := by
          unfold Hid
          rw [decide_eq_false_iff_not]
          omega
        have hm : (m : Int) ≤ 65536 := by
          unfold numD at ho
          split at ho
          · rename_i hh
            cases ho
            have := hh.2.2.2
            omega
          · cases ho
        have hm2 : (65536 < (m : Int)) = False := eq_false (by omega)
        have hm3 : 0 ≤ (m : Int) := by omega
        subst hn1 hf1
        clear h h2 HNV HT1 HT2 ho hm
        go_wp2_with fail
        go_meet
        exact ⟨by rw [HX.out]; rfl, rfl⟩
      | none =>
        have HX : Hid (decide (nv < 0) = true) := by
          have h := HNV.out
          rw [ho, numI_no (.inr rfl)] at h
          unfold Hid
          rw [decide_eq_true_iff]
          omega
        have ht := HT2.out ho
        clear HNV HT1 HT2 ho h2
        by_cases hf0 : f = 0
        case neg =>
          have hqf : (f != 0) = true := by rw [bne_iff_ne]; exact hf0
          clear ht hf0
          go_wp2_with fail
          go_meet
          exact ⟨by rw [HX.out]; rfl, rfl⟩
        have hqf : (f != 0) = false := by rw [bne_eq_false_iff_eq]; exact hf0
        by_cases hn0 : n < 0
        case pos =>
          clear ht hf0
          go_wp2_with fail
          go_meet
          exact ⟨by rw [HX.out]; rfl, rfl⟩
        have hn6 : (65536 < n) = True := eq_true (by omega)
        have hn1 : 0 ≤ n := by omega
        clear ht hf0 hn0
        go_wp2_with fail
        go_meet
        exact ⟨by rw [HX.out]; rfl, rfl⟩
    case rest =>
    obtain ⟨rfl, rfl⟩ := hcut
    clear k0
    have HNN : Hid ((fieldF kAt (flV v)).isSome = true → 0 ≤ numV ((fieldF kAt (flV v)).getD v0) → n = numV ((fieldF kAt (flV v)).getD v0) ∧ numV ((fieldF kAt (flV v)).getD v0) ≤ 65536) := by
      intro _ h0
      have h := HNV.out
      have hbd := numV_bd ((fieldF kAt (flV v)).getD v0)
      unfold numI at h
      split at h
      · cases ho : numD c16.h.neg (L c16.h.ds) c16.h.exp with
        | none => rw [ho] at h; dsimp only at h; omega
        | some m => rw [ho] at h; dsimp only at h; have := (HT1.out m ho).1; omega
      · omega
    clear HT1 HT2 HNV HD16 HR16 HB16
    by_cases hbad : (fieldF kAt (flV v)).isSome = true ∧ numV ((fieldF kAt (flV v)).getD v0) < 0
    case pos =>
      have HF : Hid (r = (ch0, 3)) := by unfold Hid; rw [HR.out, if_pos (fit_no hbad.1 hbad.2)]
      have hqb : ((fieldF kAt (flV v)).isSome && decide (numV ((fieldF kAt (flV v)).getD v0) < 0)) = true := by rw [hbad.1, decide_eq_true hbad.2]; rfl
      rw [hqb]
      have HRB := Lib.hid HU.out.q.rb
      clear HR hbad HAT HV HFD HWD HSB HNN HU hqb
      have HX2 := Lib.hid HRB.out.x2
      have HBW := Lib.hid HRB.out.b
      skip
      go_wp2_with (refine wpl_store rfl rfl stC.2 rfl rfl (cs := CC.cells c00) rfl rfl one_00 HX2.out (Nat.le_refl 29) (row := CC.cells c00) rfl ?_; generalize hW9 : World.setRow _ _ _ = w9; obtain ⟨hd9, hk9, hz9, hb9⟩ := setRow_of hW9 HX2.out; clear hW9; refine RowKit.Hid.out ?_)
      unfold RowKit.Hid
      repeat go_step
      refine bodyPost_ret (results_two rfl _ _ (w.heap.size + 1) _ _ _ _ _ rfl rfl hd9 Tryz.underlying46 rfl (by kernel_rfl)) rfl ⟨c00, by rw [HF.out]; rfl, one_00, (fun h => by rw [HF.out] at h; exact absurd h (by decide)), HBW.out.trans (hb9 _ (by omega))⟩
    have hqb : ((fieldF kAt (flV v)).isSome && decide (numV ((fieldF kAt (flV v)).getD v0) < 0)) = false := by
      rw [Bool.eq_false_iff]
      intro h
      rw [Bool.and_eq_true, decide_eq_true_iff] at h
      exact hbad h
    rw [hqb]
    clear hqb
    have hb2 : (fieldF kAt (flV v)).isSome = true → 0 ≤ numV ((fieldF kAt (flV v)).getD v0) := fun h => Int.not_lt.1 (fun h2 => hbad ⟨h, h2⟩)
    obtain ⟨ps, hps⟩ : ∃ ps, ps = if (fieldF kAt (flV v)).isSome = true then numV ((fieldF kAt (flV v)).getD v0) else 0 := ⟨_, rfl⟩
    have HPB : Hid (0 ≤ ps ∧ ps ≤ 65536) := by
      unfold Hid
      rw [hps]
      have hbd := numV_bd ((fieldF kAt (flV v)).getD v0)
      split
      · rename_i h
        exact ⟨hb2 h, hbd.2⟩
      · omega
    have HPN : Hid ((fieldF kAt (flV v)).isSome = true → n = ps) := by
      intro h
      rw [hps, if_pos h]
      exact (HNN.out h (hb2 h)).1
    have HAT0 : Hid ((fieldF kAt (flV v)).isSome = true → 0 ≤ numV ((fieldF kAt (flV v)).getD v0)) := hb2
    have HPS := Lib.hid hps
    clear hps HNN hbad hb2
    obtain ⟨sm, hsm⟩ : ∃ sm, sm = (fieldF kAt (flV v)).isSome := ⟨_, rfl⟩
    rw [← hsm]
    have HSM := Lib.hid hsm
    clear hsm
    go_upto_if 121 with fail
    go_cut [] (fun wx => RU w wx S ⟨⟨7, a1, a2, a3, a4, a5, a6, a7, a8, a9, a10⟩, .slice q1 n1 m1, .slice q2 n2 m2, .slice q3 n3 m3⟩ g8 ⟨op, .slice pa pl.length pcap, ps, c12, c14⟩ pl ((fieldF kOld (flV v)).getD v0) ((fieldF kNew (flV v)).getD v0))
    case first =>
      cases sm with
      | false =>
        have HF : Hid (ps = 0) := by unfold Hid; rw [HPS.out, ← HSM.out]; rfl
        clear HSM HPS HPN HAT0
        go_wp2_with fail
        go_meet
        rw [HF.out]
        exact HU.out
      | true =>
        have HF : Hid (n = ps) := HPN.out HSM.out.symm
        have HX8 := Lib.hid HU.out.q.x8
        clear HSM HPS HPN HAT0 HAT HV HFD HWD
        go_wp2_with (refine wpl_store rfl rfl stI rfl rfl (cs := [.int .i64 n]) rfl rfl (by intro u hu; rw [List.mem_singleton.1 hu]; rfl) HX8.out (by rw [ccells_len]; decide) (row := CC.cells ⟨op, .slice pa pl.length pcap, n, c12, c14⟩) rfl ?_; generalize hW4 : World.setRow _ _ _ = w22; have HUn := Lib.hid (HU.out.put HSB.out hW4 rfl HU.out.o HU.out.n); clear hW4)
        go_meet
        rw [← HF.out]
        exact HUn.out
    case rest =>
    clear HU HPN
    have HU := Lib.hid hcut
    clear hcut
    generalize hxx : (⟨op, pl, ps, (fieldF kOld (flV v)).getD v0, (fieldF kNew (flV v)).getD v0⟩ : Ch) = x at *
    have HXX := Lib.hid hxx
    have HC29 : Hid (∀ j, j < 29 → wc.cell? ⟨g8, 0 + j, none⟩ = (CC.cells ⟨op, .slice pa pl.length pcap, ps, c12, c14⟩)[j]?) := (rowC5 HU.out.q.x8).2.2.2.1
    have HWR := Lib.hid (written_any x ⟨op, .slice pa pl.length pcap, ps, c12, c14⟩ wc wc.heap.size (Nat.le_refl _) (by
      rw [← hxx]
      exact ⟨rfl, rfl, ⟨by show _ ≤ op; omega, by show op ≤ _; omega⟩, ⟨by have := HPB.out; show _ ≤ ps; omega, by have := HPB.out; show ps ≤ _; omega⟩, HU.out.p, (BlkIn.lt' HU.out.bp HU.out.p).mono fun b hb => hb.2, HU.out.o.mono fun b hb => by have := HSB.out b hb; have := HU.out.q.rb.z; omega, HU.out.n.mono fun b hb => by have := HSB.out b hb; have := HU.out.q.rb.z; omega⟩) (by rw [← hxx]; show 1 ≤ op; omega) (by rw [← hxx]; show op ≤ 4; omega) (by rw [← hxx]; exact HVA.out) (by rw [← hxx]; exact HPB.out.1) (by rw [← hxx]; exact HPB.out.2) (HWD.out.below HU.out.q.rb.b))
    clear hxx
    go_wp2_with (refine wpl_load rfl rfl stC rfl (ccells_len _) HC29.out ?_)
    refine HWR.out.mono ?_
    rintro e w23 ⟨c20, rfl, hr, hb⟩
    have HR20 := Lib.hid hr
    have HONE20 := Lib.hid (vc_one hr.any)
    replace HU := Lib.hid (HU.out.below hb)
    clear hr hb HWR HC29
    go_upto_region 28 with (refine wpl_new rfl rfl stVk rfl (cs := VC.cells c20) rfl (cells_len _) HONE20.out rfl rfl rfl ?_; generalize hW1 : World.alloc w23 _ = w24; obtain ⟨ha, -, hz, hb⟩ := alloc_of' hW1; have HB20 := Lib.hid ha; have HUn := Lib.hid (HU.out.below hb); have HR20n := Lib.hid (HR20.out.stays hb); clear hW1 ha hz hb)
    generalize w23.heap.size = g20 at *
    clear HU HR20
    have HU := HUn
    have HR20 := HR20n
    clear HUn HR20n
    obtain ⟨fa, fm, hfe, hfl⟩ := fl_len HR20.out
    obtain ⟨fc, ⟨fa', fm', hfe', hf1, ⟨hf2, -⟩, hf3, hf4⟩⟩ := fl_rd HR20.out
    rw [flV_wr] at hfe hfl hfe' hf1 hf2 hf4
    obtain ⟨h20, b20, l20, f20⟩ := c20
    dsimp only at hfe hfe'
    subst hfe
    simp only [Value.slice.injEq, true_and, and_true] at hfe'
    obtain ⟨rfl, rfl⟩ := hfe'
    have HCE := Lib.hid hf4
    have HFIT := Lib.hid (fit_same (flV v) op pl x (by rw [← HXX.out]) (by rw [← HXX.out]) HOE.out HPE.out HAT0.out)
    obtain ⟨qa, qm, hqe, -⟩ := HL3.out
    simp only [Value.slice.injEq] at hqe
    obtain ⟨rfl, rfl, rfl⟩ := hqe
    have HLX : Hid ((wr5 x).length ≤ 140737488351232) := hfl
    clear hf1 hf2 hf3 hf4 hfl HL3 HR20
    obtain ⟨⟨-, -, -, -, -, -, -, -, -, -, -, -, x12⟩, -⟩ := box13 HU.out.q.rb.x1
    have y12 : w24.cell? ⟨g20, 12, none⟩ = some (.slice fa (wr5 x).length fm) := cell_of_row _ _ _ _ _ _ HB20.out
    by_cases hlen : (wr5 x).length = (flV v).length
    case neg =>
      have HF : Hid (r = (ch0, 3)) := by unfold Hid; rw [HR.out, if_pos (by rw [HFIT.out, decide_eq_false hlen]; rfl)]
      have hqb : ((((wr5 x).length : Nat) : Int) != (((flV v).length : Nat) : Int)) = true := by rw [bne_iff_ne]; omega
      have HRB := Lib.hid HU.out.q.rb
      clear HR hlen HAT HV HFD HWD HSB HU HFIT
      have HX2 := Lib.hid HRB.out.x2
      have HBW := Lib.hid HRB.out.b
      skip
      go_wp2_with (refine wpl_store rfl rfl stC.2 rfl rfl (cs := CC.cells c00) rfl rfl one_00 HX2.out (Nat.le_refl 29) (row := CC.cells c00) rfl ?_; generalize hW9 : World.setRow _ _ _ = w9; obtain ⟨hd9, hk9, hz9, hb9⟩ := setRow_of hW9 HX2.out; clear hW9; refine RowKit.Hid.out ?_)
      unfold RowKit.Hid
      repeat go_step
      refine bodyPost_ret (results_two rfl _ _ (w.heap.size + 1) _ _ _ _ _ rfl rfl hd9 Tryz.underlying46 rfl (by kernel_rfl)) rfl ⟨c00, by rw [HF.out]; rfl, one_00, (fun h => by rw [HF.out] at h; exact absurd h (by decide)), HBW.out.trans (hb9 _ (by omega))⟩
    have hqb : ((((wr5 x).length : Nat) : Int) != (((flV v).length : Nat) : Int)) = false := by rw [bne_eq_false_iff_eq]; omega
    replace HFIT : Hid (fitF (flV v) op pl = hasAll (flV v) (wr5 x)) := by unfold Hid; rw [HFIT.out, decide_eq_true hlen]; rfl
    have HLE := Lib.hid hlen
    clear hlen
    go_wp2_with fail
    generalize hwl : wr5 x = wl at *
    clear hwl x12 y12 hqb
    have hwlb : wl.length ≤ 1000000 := by have := HLE.out; have := HLV.out; omega
    go_loopw [21] (fun iv wr => ∃ k : Nat, k ≤ wl.length ∧ iv = .int .i64 (k : Int) ∧ Hid (Below w24.heap.size w24 wr) ∧ Hid (∀ i (hi : i < wl.length), i < k → (fieldF wl[i].1 (flV v)).isSome = true)) (fun iv _ => wl.length - (intOf iv).toNat)
    case atStart => exact ⟨0, Nat.zero_le _, rfl, Below.refl _ _, fun i _ h => absurd h (Nat.not_lt_zero _)⟩
    case round =>
      obtain ⟨k, hk, rfl, HBW, HZ⟩ := hrel
      have hgz : g20 < w24.heap.size := (Array.getElem?_eq_some_iff.1 HB20.out).1
      have HU2 : Hid (∀ w', Below w24.heap.size w24 w' → RU w w' S ⟨⟨7, a1, a2, a3, a4, a5, a6, a7, a8, a9, a10⟩, .slice q1 n1 m1, .slice q2 n2 m2, .slice q3 (flV v).length m3⟩ g8 ⟨op, .slice pa pl.length pcap, ps, c12, c14⟩ pl ((fieldF kOld (flV v)).getD v0) ((fieldF kNew (flV v)).getD v0)) := fun w' hb => HU.out.below hb
      have y12 : wr.cell? ⟨g20, 12, none⟩ = some (.slice fa wl.length fm) := cell_of_row _ _ _ _ _ _ (box_below HB20.out HBW.out)
      by_cases hlt : k < wl.length
      case neg =>
        obtain rfl : k = wl.length := by omega
        replace HR : Hid (r = if movB op = true ∧ pl = [] then (ch0, 1) else (changeOf (flV v) op pl, 0)) := by unfold Hid; rw [HR.out, if_neg (by rw [HFIT.out, hasAll_yes (fun i hi => HZ.out i hi hi)]; decide)]
        have HCO : Hid (changeOf (flV v) op pl = x) := by
          have h := fit_at (HFIT.out.trans (hasAll_yes (fun i hi => HZ.out i hi hi)))
          unfold Hid changeOf
          rw [← HXX.out, ← h, ← HPS.out]
        have HUr := Lib.hid (HU2.out _ HBW.out)
        clear HU HU2 HFIT HZ HLE HCE hgz HB20 HONE20 HFD HV HWD HAT
        go_upto_region 36 with fail
        clear y12
        have HC29 : Hid (∀ j, j < 29 → wr.cell? ⟨g8, 0 + j, none⟩ = (CC.cells ⟨op, .slice pa pl.length pcap, ps, c12, c14⟩)[j]?) := (rowC5 HUr.out.q.x8).2.2.2.1
        have HMV := Lib.hid (moves_any ⟨op, .slice pa pl.length pcap, ps, c12, c14⟩ wr (movB op) rfl)
        generalize movB op = mb at *
        go_wp2_with (refine wpl_load rfl rfl stC rfl (ccells_len _) HC29.out ?_)
        refine HMV.out.mono ?_
        rintro e w30 ⟨rfl, hb⟩
        replace HUr := Lib.hid (HUr.out.below hb)
        clear hb HMV HC29 HBW hk hlt
        cases mb with
        | false =>
          have HF : Hid (r = (x, 0)) := by unfold Hid; rw [HR.out, if_neg (fun h => by cases h.1), HCO.out]
          clear HR HCO
          have HG8 : Hid (w.heap.size + 2 ≤ g8) := HUr.out.q.g8
          have HONEcc : Hid (∀ u ∈ CC.cells ⟨op, .slice pa pl.length pcap, ps, c12, c14⟩, u.oneCell' = true) := one_cc (vc_one HUr.out.o.any) (vc_one HUr.out.n.any) rfl
          have HC29 : Hid (∀ j, j < 29 → w30.cell? ⟨g8, 0 + j, none⟩ = (CC.cells ⟨op, .slice pa pl.length pcap, ps, c12, c14⟩)[j]?) := (rowC5 HUr.out.q.x8).2.2.2.1
          have HX2 := Lib.hid HUr.out.q.rb.x2
          have HBWr := Lib.hid HUr.out.q.rb.b
          go_upto_region 38 with fail
          go_wp2_with (first
            | refine wpl_load rfl rfl stC rfl (ccells_len _) HC29.out ?_
            | (refine wpl_store rfl rfl stC.2 rfl rfl (cs := CC.cells ⟨op, .slice pa pl.length pcap, ps, c12, c14⟩) rfl (ccells_len _) HONEcc.out HX2.out (Nat.le_refl 29) (row := CC.cells ⟨op, .slice pa pl.length pcap, ps, c12, c14⟩) (by rw [List.take_zero, List.nil_append, List.drop_of_length_le (Nat.le_refl 29), List.append_nil]) ?_; generalize hW9 : World.setRow _ _ _ = w9; obtain ⟨hd9, hk9, hz9, hb9⟩ := setRow_of hW9 HX2.out; clear hW9; refine RowKit.Hid.out ?_))
          unfold RowKit.Hid
          repeat go_step
          refine bodyPost_ret (results_two rfl _ _ (w.heap.size + 1) _ _ _ _ _ rfl rfl hd9 Tryz.underlying46 rfl (by kernel_rfl)) rfl ⟨_, by rw [HF.out]; rfl, HONEcc.out, (fun _ => by rw [HF.out, ← HXX.out]; exact ⟨rfl, rfl, ⟨by show _ ≤ op; omega, by show op ≤ _; omega⟩, ⟨by have := HPB.out; show _ ≤ ps; omega, by have := HPB.out; show ps ≤ _; omega⟩, HUr.out.p.kept HUr.out.bp (fun b hb _ => hk9 b (by have := HG8.out; omega)) (by omega), HUr.out.bp.mono (fun b hb => .inr (by have := HG8.out; omega)), (HUr.out.o.kept (fun b hb _ => hk9 b (by have := HSB.out b hb; omega)) (by omega)).mono (fun b hb => .inl hb), (HUr.out.n.kept (fun b hb _ => hk9 b (by have := HSB.out b hb; omega)) (by omega)).mono (fun b hb => .inl hb)⟩), HBWr.out.trans (hb9 _ (by omega))⟩
        | true =>
        by_cases hp : pl = []
        case pos =>
          have HF : Hid (r = (ch0, 1)) := by unfold Hid; rw [HR.out, if_pos ⟨rfl, hp⟩]
          have hqp : (((pl.length : Nat) : Int) == 0) = true := by rw [hp]; rfl
          have HRB := Lib.hid HUr.out.q.rb
          clear HR HCO hp HUr
          have HX2 := Lib.hid HRB.out.x2
          have HBW := Lib.hid HRB.out.b
          skip
          go_wp2_with (refine wpl_store rfl rfl stC.2 rfl rfl (cs := CC.cells c00) rfl rfl one_00 HX2.out (Nat.le_refl 29) (row := CC.cells c00) rfl ?_; generalize hW9 : World.setRow _ _ _ = w9; obtain ⟨hd9, hk9, hz9, hb9⟩ := setRow_of hW9 HX2.out; clear hW9; refine RowKit.Hid.out ?_)
          unfold RowKit.Hid
          repeat go_step
          refine bodyPost_ret (results_two rfl _ _ (w.heap.size + 1) _ _ _ _ _ rfl rfl hd9 Tryz.underlying46 rfl (by kernel_rfl)) rfl ⟨c00, by rw [HF.out]; rfl, one_00, (fun h => by rw [HF.out] at h; exact absurd h (by decide)), HBW.out.trans (hb9 _ (by omega))⟩
        case neg =>
          have HF : Hid (r = (x, 0)) := by unfold Hid; rw [HR.out, if_neg (fun h => hp h.2), HCO.out]
          have hqp : (((pl.length : Nat) : Int) == 0) = false := by
            rw [beq_eq_false_iff_ne]
            have := List.length_pos_iff.2 hp
            omega
          clear HR HCO hp
          have HG8 : Hid (w.heap.size + 2 ≤ g8) := HUr.out.q.g8
          have HONEcc : Hid (∀ u ∈ CC.cells ⟨op, .slice pa pl.length pcap, ps, c12, c14⟩, u.oneCell' = true) := one_cc (vc_one HUr.out.o.any) (vc_one HUr.out.n.any) rfl
          have HC29 : Hid (∀ j, j < 29 → w30.cell? ⟨g8, 0 + j, none⟩ = (CC.cells ⟨op, .slice pa pl.length pcap, ps, c12, c14⟩)[j]?) := (rowC5 HUr.out.q.x8).2.2.2.1
          have HX2 := Lib.hid HUr.out.q.rb.x2
          have HBWr := Lib.hid HUr.out.q.rb.b
          go_upto_region 38 with fail
          go_wp2_with (first
            | refine wpl_load rfl rfl stC rfl (ccells_len _) HC29.out ?_
            | (refine wpl_store rfl rfl stC.2 rfl rfl (cs := CC.cells ⟨op, .slice pa pl.length pcap, ps, c12, c14⟩) rfl (ccells_len _) HONEcc.out HX2.out (Nat.le_refl 29) (row := CC.cells ⟨op, .slice pa pl.length pcap, ps, c12, c14⟩) (by rw [List.take_zero, List.nil_append, List.drop_of_length_le (Nat.le_refl 29), List.append_nil]) ?_; generalize hW9 : World.setRow _ _ _ = w9; obtain ⟨hd9, hk9, hz9, hb9⟩ := setRow_of hW9 HX2.out; clear hW9; refine RowKit.Hid.out ?_))
          unfold RowKit.Hid
          repeat go_step
          refine bodyPost_ret (results_two rfl _ _ (w.heap.size + 1) _ _ _ _ _ rfl rfl hd9 Tryz.underlying46 rfl (by kernel_rfl)) rfl ⟨_, by rw [HF.out]; rfl, HONEcc.out, (fun _ => by rw [HF.out, ← HXX.out]; exact ⟨rfl, rfl, ⟨by show _ ≤ op; omega, by show op ≤ _; omega⟩, ⟨by have := HPB.out; show _ ≤ ps; omega, by have := HPB.out; show ps ≤ _; omega⟩, HUr.out.p.kept HUr.out.bp (fun b hb _ => hk9 b (by have := HG8.out; omega)) (by omega), HUr.out.bp.mono (fun b hb => .inr (by have := HG8.out; omega)), (HUr.out.o.kept (fun b hb _ => hk9 b (by have := HSB.out b hb; omega)) (by omega)).mono (fun b hb => .inl hb), (HUr.out.n.kept (fun b hb _ => hk9 b (by have := HSB.out b hb; omega)) (by omega)).mono (fun b hb => .inl hb)⟩), HBWr.out.trans (hb9 _ (by omega))⟩
      case pos =>
        obtain ⟨gf, of, rfl, hgf, hat⟩ := HCE.out (by omega)
        have hkey := hat k hlt 0 (by decide)
        rw [Nat.add_zero, List.getElem?_cons_zero, List.getD_eq_getElem?_getD, List.getElem?_eq_getElem hlt, Option.getD_some] at hkey
        have HSX : Hid (∀ w', Below w24.heap.size w24 w' → (∀ j, j < 13 → w'.cell? ⟨w.heap.size, 0 + j, none⟩ = (VC.cells ⟨⟨7, a1, a2, a3, a4, a5, a6, a7, a8, a9, a10⟩, .slice q1 n1 m1, .slice q2 n2 m2, .slice q3 (flV v).length m3⟩)[j]?) ∧ w'.cell? ⟨g20, 12, none⟩ = some (.slice (some ⟨gf, of, none⟩) wl.length fm) ∧ w'.cell? ⟨gf, of + k * 14, none⟩ = some (.string wl[k].1)) := fun w' hb => ⟨rowV (HU2.out w' hb).q.rb.x1, cell_of_row _ _ _ _ _ _ (box_below HB20.out hb), (hb.cell hgf).trans hkey⟩
        obtain ⟨bs, hbs⟩ : ∃ bs, bs = (fieldF wl[k].1 (flV v)).isSome := ⟨_, rfl⟩
        have HFK : Hid (∀ w', Below w24.heap.size w24 w' → Calls Tryz.prog 25 #[aggV ⟨⟨7, a1, a2, a3, a4, a5, a6, a7, a8, a9, a10⟩, .slice q1 n1 m1, .slice q2 n2 m2, .slice q3 (flV v).length m3⟩, .string wl[k].1] w' (FkPost bs w')) := by
          intro w' hb
          rw [hbs]
          exact (HFD.out wl[k].1 w' (HU2.out w' hb).q.rb).mono fun e w2 ⟨c, h1, h2, h3⟩ => ⟨c, h1, vc_one h2.any, h3⟩
        have HBS := Lib.hid hbs
        generalize hky : wl[k].1 = ky at *
        have HKY := Lib.hid hky
        clear hat hkey hbs hgz HFD HV HCE hky HU HAT HWD
        go_upto_region 33 with fail
        clear y12
        refine wp_region_held_drew (S := fun w' => (∀ j, j < 13 → w'.cell? ⟨w.heap.size, 0 + j, none⟩ = (VC.cells ⟨⟨7, a1, a2, a3, a4, a5, a6, a7, a8, a9, a10⟩, .slice q1 n1 m1, .slice q2 n2 m2, .slice q3 (flV v).length m3⟩)[j]?) ∧ w'.cell? ⟨g20, 12, none⟩ = some (.slice (some ⟨gf, of, none⟩) wl.length fm) ∧ w'.cell? ⟨gf, of + k * 14, none⟩ = some (.string ky)) (by kernel_rfl) (HSX.out _ (HBW.out.trans ((drewB wr).mono HBW.out.size))) (fun hHeld => ?_)
        replace HBW := Lib.hid (HBW.out.trans ((drewB wr).mono HBW.out.size))
        generalize wr.drew = wd at *
        refine take_at 0 (some 142) rfl rfl (by kernel_rfl) (by kernel_rfl) (by kernel_rfl) (fun _ _ _ h => h) (yl_load (cs := VC.cells ⟨⟨7, a1, a2, a3, a4, a5, a6, a7, a8, a9, a10⟩, .slice q1 n1 m1, .slice q2 n2 m2, .slice q3 (flV v).length m3⟩) stVk (cells_len _) _ _ (fun w hS => hS.1) rfl _ rfl rfl) hHeld ?_
        simp only [Act.put, List.setIfInBounds_toArray, List.set_cons_zero, List.set_cons_succ]
        refine take_at 1 (some 143) rfl rfl (by kernel_rfl) (by kernel_rfl) (by kernel_rfl) (fun _ _ _ h => h) (Or.inl ⟨by rfl, fun w hSw => by (obtain ⟨-, q1, q2⟩ := hSw; go_simp; with_reducible rfl)⟩) hHeld ?_
        simp only [Act.put, List.setIfInBounds_toArray, List.set_cons_zero, List.set_cons_succ]
        refine take_at 2 (some 144) rfl rfl (by kernel_rfl) (by kernel_rfl) (by kernel_rfl) (fun _ _ _ h => h) (Or.inl ⟨by rfl, fun w hSw => by (obtain ⟨-, q1, q2⟩ := hSw; go_simp; with_reducible rfl)⟩) hHeld ?_
        simp only [Act.put, List.setIfInBounds_toArray, List.set_cons_zero, List.set_cons_succ]
        refine take_at 3 (some 145) rfl rfl (by kernel_rfl) (by kernel_rfl) (by kernel_rfl) (fun _ _ _ h => h) (Or.inl ⟨by rfl, fun w hSw => by (obtain ⟨-, q1, q2⟩ := hSw; go_simp; with_reducible rfl)⟩) hHeld ?_
        simp only [Act.put, List.setIfInBounds_toArray, List.set_cons_zero, List.set_cons_succ]
        refine take_at 4 (some 146) rfl rfl (by kernel_rfl) (by kernel_rfl) (by kernel_rfl) (fun _ _ _ h => h) (Or.inl ⟨by rfl, fun w hSw => by (obtain ⟨-, q1, q2⟩ := hSw; go_simp; with_reducible rfl)⟩) hHeld ?_
        simp only [Act.put, List.setIfInBounds_toArray, List.set_cons_zero, List.set_cons_succ]
        refine take_at 5 (some 147) rfl rfl (by kernel_rfl) (by kernel_rfl) (by kernel_rfl) (fun _ _ _ h => h) (Or.inl ⟨by rfl, fun w hSw => by (obtain ⟨-, q1, q2⟩ := hSw; go_simp; with_reducible rfl)⟩) hHeld ?_
        simp only [Act.put, List.setIfInBounds_toArray, List.set_cons_zero, List.set_cons_succ]
        refine take_at 6 (some 148) rfl rfl (by kernel_rfl) (by kernel_rfl) (by kernel_rfl) (fun _ _ _ h => h) (Or.inl ⟨by rfl, fun w hSw => by (obtain ⟨-, q1, q2⟩ := hSw; go_simp; with_reducible rfl)⟩) hHeld ?_
        simp only [Act.put, List.setIfInBounds_toArray, List.set_cons_zero, List.set_cons_succ]
        refine wpAnyH_ready (rs := [7, 11]) (by kernel_rfl) (by simp) ?_
        refine AllReadyH.cons rfl (fun K hK => ?_) (AllReadyH.cons rfl (fun K hK => ?_) AllReadyH.nil)
        · skip
          go_simp
          refine (HFK.out _ HBW.out).mono ?_
          rintro e w25 ⟨c22, rfl, hone, hb⟩
          have HONE22 := Lib.hid hone
          replace HBW := Lib.hid (HBW.out.trans (hb.mono HBW.out.size))
          clear hHeld hb hone
          refine hK.out _ _ (HSX.out _ HBW.out) (fun hHeld => ?_)
          clear hK K
          refine take_at 8 (some 141) rfl rfl (by kernel_rfl) (by kernel_rfl) (by kernel_rfl) (fun _ _ _ h => h) (Or.inl ⟨by rfl, fun w hSw => by (clear hSw; go_simp; with_reducible rfl)⟩) hHeld ?_
          simp only [Act.put, List.setIfInBounds_toArray, List.set_cons_zero, List.set_cons_succ]
          refine take_at 9 (some 150) rfl rfl (by kernel_rfl) (by kernel_rfl) (by kernel_rfl) (fun _ _ _ h => h) (Or.inl ⟨by rfl, fun w hSw => by (clear hSw; go_simp; with_reducible rfl)⟩) hHeld ?_
          simp only [Act.put, List.setIfInBounds_toArray, List.set_cons_zero, List.set_cons_succ]
          refine take_at 10 (some 151) rfl rfl (by kernel_rfl) (by kernel_rfl) (by kernel_rfl) (fun _ _ _ h => h) (Or.inl ⟨by rfl, fun w hSw => by (clear hSw; go_simp; with_reducible rfl)⟩) hHeld ?_
          simp only [Act.put, List.setIfInBounds_toArray, List.set_cons_zero, List.set_cons_succ]
          refine wpAnyH_ready (rs := [11]) (by kernel_rfl) (by simp) ?_
          refine AllReadyH.cons rfl (fun K hK => ?_) AllReadyH.nil
          have HBW0 := HBW
          go_simp
          generalize hW5 : World.alloc w25 _ = w26
          obtain ⟨ha5, -, hz5, hb5⟩ := alloc_of hW5
          have HX5 := Lib.hid ha5
          replace HBW := Lib.hid (HBW.out.trans (hb5.mono HBW.out.size))
          have HZ5 : Hid (w24.heap.size ≤ w25.heap.size) := (by have := HBW0.out.size; exact this)
          clear hHeld hW5 ha5 hz5 hb5
          refine hK.out _ _ (HSX.out _ HBW.out) (fun hHeld => ?_)
          clear hK K
          refine wpAnyH_ready (rs := [12]) (by kernel_rfl) (by simp) ?_
          refine AllReadyH.cons rfl (fun K hK => ?_) AllReadyH.nil
          refine step_store (row := VC.cells c22) rfl _ _ rfl stVk.2 w25.heap.size 0 rfl rfl (cs := VC.cells c22) rfl (cells_len _) HONE22.out HX5.out (Nat.le_refl 13) rfl ?_
          generalize hW6 : World.setRow _ _ _ = w27
          obtain ⟨-, -, -, hb6⟩ := setRow_of hW6 HX5.out
          replace HBW := Lib.hid (HBW.out.trans (hb6 _ HZ5.out))
          clear hHeld hW6 hb6
          refine hK.out _ _ (HSX.out _ HBW.out) (fun hHeld => ?_)
          clear hK K
          refine take_at 13 (some 23) rfl rfl (by kernel_rfl) (by kernel_rfl) (by kernel_rfl) (fun _ _ _ h => h) (Or.inl ⟨by rfl, fun w hSw => by (clear hSw; go_simp; with_reducible rfl)⟩) hHeld ?_
          simp only [Act.put, List.setIfInBounds_toArray, List.set_cons_zero, List.set_cons_succ]
          clear hHeld
          refine wpAnyH_done (by kernel_rfl) ?_ _
          go_simp
          cases bs with
          | true =>
            have HZ' : Hid (∀ i (hi : i < wl.length), i < k + 1 → (fieldF wl[i].1 (flV v)).isSome = true) := by
              intro i hi hik
              by_cases h : i = k
              · subst h
                rw [HKY.out]
                exact HBS.out.symm
              · exact HZ.out i hi (by omega)
            clear HZ HR HFIT HFK HSX
            go_wp2_with fail
            exact ⟨⟨k + 1, by omega, by go_num, HBW.out, HZ'.out⟩, by simp [intOf]; omega⟩
          | false =>
            have HF : Hid (r = (ch0, 3)) := by unfold Hid; rw [HR.out, if_pos (by rw [HFIT.out]; exact hasAll_no hlt (by rw [HKY.out]; exact HBS.out.symm))]
            have HRB := Lib.hid (HU2.out _ HBW.out).q.rb
            clear HZ HR HFIT HFK HSX HU2
            have HX2 := Lib.hid HRB.out.x2
            have HBW := Lib.hid HRB.out.b
            skip
            go_wp2_with (refine wpl_store rfl rfl stC.2 rfl rfl (cs := CC.cells c00) rfl rfl one_00 HX2.out (Nat.le_refl 29) (row := CC.cells c00) rfl ?_; generalize hW9 : World.setRow _ _ _ = w9; obtain ⟨hd9, hk9, hz9, hb9⟩ := setRow_of hW9 HX2.out; clear hW9; refine RowKit.Hid.out ?_)
            unfold RowKit.Hid
            repeat go_step
            refine bodyPost_ret (results_two rfl _ _ (w.heap.size + 1) _ _ _ _ _ rfl rfl hd9 Tryz.underlying46 rfl (by kernel_rfl)) rfl ⟨c00, by rw [HF.out]; rfl, one_00, (fun h => by rw [HF.out] at h; exact absurd h (by decide)), HBW.out.trans (hb9 _ (by omega))⟩
        · have HBW0 := HBW
          go_simp
          generalize hW5 : World.alloc wd _ = w26
          obtain ⟨ha5, -, hz5, hb5⟩ := alloc_of hW5
          have HX5 := Lib.hid ha5
          replace HBW := Lib.hid (HBW.out.trans (hb5.mono HBW.out.size))
          have HZ5 : Hid (w24.heap.size ≤ wd.heap.size) := (by have := HBW0.out.size; exact this)
          clear hHeld hW5 ha5 hz5 hb5
          refine hK.out _ _ (HSX.out _ HBW.out) (fun hHeld => ?_)
          clear hK K
          refine wpAnyH_ready (rs := [7]) (by kernel_rfl) (by simp) ?_
          refine AllReadyH.cons rfl (fun K hK => ?_) AllReadyH.nil
          go_simp
          refine (HFK.out _ HBW.out).mono ?_
          rintro e w25 ⟨c22, rfl, hone, hb⟩
          have HONE22 := Lib.hid hone
          replace HX5 := Lib.hid (box_below HX5.out hb)
          replace HBW := Lib.hid (HBW.out.trans (hb.mono HBW.out.size))
          clear hHeld hb hone
          refine hK.out _ _ (HSX.out _ HBW.out) (fun hHeld => ?_)
          clear hK K
          refine take_at 8 (some 141) rfl rfl (by kernel_rfl) (by kernel_rfl) (by kernel_rfl) (fun _ _ _ h => h) (Or.inl ⟨by rfl, fun w hSw => by (clear hSw; go_simp; with_reducible rfl)⟩) hHeld ?_
          simp only [Act.put, List.setIfInBounds_toArray, List.set_cons_zero, List.set_cons_succ]
          refine take_at 9 (some 150) rfl rfl (by kernel_rfl) (by kernel_rfl) (by kernel_rfl) (fun _ _ _ h => h) (Or.inl ⟨by rfl, fun w hSw => by (clear hSw; go_simp; with_reducible rfl)⟩) hHeld ?_
          simp only [Act.put, List.setIfInBounds_toArray, List.set_cons_zero, List.set_cons_succ]
          refine take_at 10 (some 151) rfl rfl (by kernel_rfl) (by kernel_rfl) (by kernel_rfl) (fun _ _ _ h => h) (Or.inl ⟨by rfl, fun w hSw => by (clear hSw; go_simp; with_reducible rfl)⟩) hHeld ?_
          simp only [Act.put, List.setIfInBounds_toArray, List.set_cons_zero, List.set_cons_succ]
          refine wpAnyH_ready (rs := [12]) (by kernel_rfl) (by simp) ?_
          refine AllReadyH.cons rfl (fun K hK => ?_) AllReadyH.nil
          refine step_store (row := VC.cells c22) rfl _ _ rfl stVk.2 wd.heap.size 0 rfl rfl (cs := VC.cells c22) rfl (cells_len _) HONE22.out HX5.out (Nat.le_refl 13) rfl ?_
          generalize hW6 : World.setRow _ _ _ = w27
          obtain ⟨-, -, -, hb6⟩ := setRow_of hW6 HX5.out
          replace HBW := Lib.hid (HBW.out.trans (hb6 _ HZ5.out))
          clear hHeld hW6 hb6
          refine hK.out _ _ (HSX.out _ HBW.out) (fun hHeld => ?_)
          clear hK K
          refine take_at 13 (some 23) rfl rfl (by kernel_rfl) (by kernel_rfl) (by kernel_rfl) (fun _ _ _ h => h) (Or.inl ⟨by rfl, fun w hSw => by (clear hSw; go_simp; with_reducible rfl)⟩) hHeld ?_
          simp only [Act.put, List.setIfInBounds_toArray, List.set_cons_zero, List.set_cons_succ]
          clear hHeld
          refine wpAnyH_done (by kernel_rfl) ?_ _
          go_simp
          cases bs with
          | true =>
            have HZ' : Hid (∀ i (hi : i < wl.length), i < k + 1 → (fieldF wl[i].1 (flV v)).isSome = true) := by
              intro i hi hik
              by_cases h : i = k
              · subst h
                rw [HKY.out]
                exact HBS.out.symm
              · exact HZ.out i hi (by omega)
            clear HZ HR HFIT HFK HSX
            go_wp2_with fail
            exact ⟨⟨k + 1, by omega, by go_num, HBW.out, HZ'.out⟩, by simp [intOf]; omega⟩
          | false =>
            have HF : Hid (r = (ch0, 3)) := by unfold Hid; rw [HR.out, if_pos (by rw [HFIT.out]; exact hasAll_no hlt (by rw [HKY.out]; exact HBS.out.symm))]
            have HRB := Lib.hid (HU2.out _ HBW.out).q.rb
            clear HZ HR HFIT HFK HSX HU2
            have HX2 := Lib.hid HRB.out.x2
            have HBW := Lib.hid HRB.out.b
            skip
            go_wp2_with (refine wpl_store rfl rfl stC.2 rfl rfl (cs := CC.cells c00) rfl rfl one_00 HX2.out (Nat.le_refl 29) (row := CC.cells c00) rfl ?_; generalize hW9 : World.setRow _ _ _ = w9; obtain ⟨hd9, hk9, hz9, hb9⟩ := setRow_of hW9 HX2.out; clear hW9; refine RowKit.Hid.out ?_)
            unfold RowKit.Hid
            repeat go_step
            refine bodyPost_ret (results_two rfl _ _ (w.heap.size + 1) _ _ _ _ _ rfl rfl hd9 Tryz.underlying46 rfl (by kernel_rfl)) rfl ⟨c00, by rw [HF.out]; rfl, one_00, (fun h => by rw [HF.out] at h; exact absurd h (by decide)), HBW.out.trans (hb9 _ (by omega))⟩
end Go.Proofs.YtemiihkmpojpgaaGreatDoor

namespace Go.Proofs.YtemiihkmpojpgaaGreatDoor
open Go.RowKit
set_option maxHeartbeats 4000000
set_option maxRecDepth 100000

theorem nil_rdlN (w : World) : RdL w (.slice none 0 0) [] := nil_rdl w
theorem RRead_any (v : V) (c : VC) (w : World) (hn : nodV v ≤ 4096) (hvv : RdV w c v) (hw : WordsOk w) (hat : ∀ x ∈ lsV v, AtOk x) :
    Calls Tryz.prog 7 #[aggV c] w (ReadsPost w (readV v)) := by
  have hv : RdI w (fun b => b < w.heap.size) c v := hvv.lt.mono fun b hb => hb.2
  clear hvv
  have hkc : c.h = hdV v := rd_head hv
  obtain ⟨lc, ⟨la, lcap, hle, hl1, ⟨hl2, _⟩, hl3, hl4⟩, hlr⟩ := ls_rd hv
  obtain ⟨hs1, hs2⟩ := ls_small v
  have HLE := Lib.hid hle
  have HCE := Lib.hid hl4
  have HRD := Lib.hid hlr
  have HSM := Lib.hid hs2
  have HWD := Lib.hid hw
  have HAT : Hid (∀ i (hi : i < (lsV v).length), AtOk (lsV v)[i]) := fun i hi => hat _ (List.getElem_mem hi)
  obtain ⟨r, hr⟩ : ∃ r, r = readV v := ⟨_, rfl⟩
  rw [← hr]
  unfold readV at hr
  rw [← hkc] at hr
  have HR := Lib.hid hr
  obtain ⟨h0, q1, q2, q3, n1, n2, n3, m1, m2, m3, hcf⟩ := hv.any.forms
  clear hv hw hat hr hkc hle hl3 hl4 hlr hs2
  subst hcf
  dsimp only at HR HLE
  obtain ⟨a0, a1, a2, a3, a4, a5, a6, a7, a8, a9, a10⟩ := h0
  dsimp only at HR
  have hll : (lsV v).length ≤ 4096 := by omega
  have HN : Hid (nodV v ≤ 4096) := hn
  clear hn hs1
  obtain ⟨hx1, hx2, hx3⟩ : q2 = la ∧ n2 = (lsV v).length ∧ m2 = lcap := by simpa using HLE.out
  subst hx1 hx2 hx3
  clear HLE
  generalize lsV v = l at *
  go_enter Tryz.func7, Tryz.ntmps7
  go_upto_region 1 with fail
  generalize hW1 : World.alloc w _ = w1
  obtain ⟨ha1, -, hz1, hb1⟩ := alloc_of hW1
  obtain ⟨⟨x0, -, -, -, -, -, -, -, -, -, -, x11, -⟩, -⟩ := box13 ha1
  have HBW := Lib.hid hb1
  have HBX := Lib.hid ha1
  clear hW1 ha1 hz1 hb1
  by_cases hk6 : a0 = 6
  case neg =>
    have HF : Hid (r = ([], 6)) := by unfold Hid; rw [HR.out, if_pos hk6]
    have hq : (a0 != 6) = true := by rw [bne_iff_ne]; exact hk6
    clear HR hk6 HAT HWD HRD HCE HSM
    go_wp2_with fail
    go_ret2
    exact ⟨_, by rw [HF.out]; rfl, by rw [HF.out]; exact nil_rdl _, HBW.out⟩
  subst hk6
  replace HR : Hid (r = readsL l) := by unfold Hid; rw [HR.out, if_neg (by decide)]
  go_wp2_with fail
  go_loopw [4, 5] (fun o iv wr => ∃ k : Nat, k ≤ l.length ∧ iv = .int .i64 (k : Int) ∧ OwnN 46 29 CC.cells RdC (fun _ => True) wr (w.heap.size + 1) o ((l.take k).map (fun x => (readC x).1)) ∧ Below w.heap.size w wr ∧ Hid (wr.heap[w.heap.size]? = some (.cells (VC.cells ⟨⟨6, a1, a2, a3, a4, a5, a6, a7, a8, a9, a10⟩, .slice q1 n1 m1, .slice q2 l.length m2, .slice q3 n3 m3⟩).toArray 30 (0, 0))) ∧ Hid (∀ i (hi : i < l.length), i < k → (readC l[i]).2 = 0)) (fun _ iv _ => l.length - (intOf iv).toNat)
  case atStart => exact ⟨0, Nat.zero_le _, rfl, OwnN.nil, HBW.out, HBX.out, fun i _ h => absurd h (Nat.not_lt_zero _)⟩
  case round =>
    clear HBW HBX x0 x11
    obtain ⟨k, hk, rfl, hown, hbw, HBX, HZ⟩ := hrel
    obtain ⟨⟨-, -, -, -, -, -, -, -, -, -, -, x11, -⟩, -⟩ := box13 HBX.out
    by_cases hlt : k < l.length
    case neg =>
      obtain rfl : k = l.length := by omega
      have HO : Hid (ReadsPost w r (.returned (.tuple #[u4, .int .i64 0])) wr) := by
        have hr := HR.out
        rw [reads_ok l (fun i hi => HZ.out i hi hi)] at hr
        rw [List.take_length] at hown
        obtain ⟨lc, hsl, hrd, _⟩ := hown.sl stbC ccells_len c00 (by rw [List.length_map]; omega) (S := fun _ => True) (fun _ _ => trivial) (fun _ _ _ => trivial)
        exact ⟨u4, by rw [hr]; rfl, by rw [hr]; exact ⟨lc, hsl, fun i hi => (hrd i hi).any⟩, hbw⟩
      clear hown HR HZ hbw HAT HWD HRD HCE HSM HBX
      go_wp2_with fail
      go_ret2
      exact HO.out
    obtain ⟨g, o, rfl, hg, hat⟩ := HCE.out (by omega)
    have HAT1 := Lib.hid (fun j hj => (hbw.cell hg).trans (hat k hlt j hj))
    have hrd := (HRD.out k hlt).kept (fun b hb _ => hbw.block b hb) hbw.size
    have HONE := Lib.hid (vc_one hrd.any)
    have hsm := HSM.out k hlt
    have hfl : (flV l[k]).length ≤ 1000000 := by have := fl_nod l[k]; have := HN.out; omega
    have HRC := Lib.hid (fun w' (hb : Below wr.heap.size wr w') => RRead1_any l[k] (lc k) w' (fun b => b < w.heap.size) (fun b hb' => by have := hbw.size; have := hb.size; omega) (hrd.stays hb) (HWD.out.below (hbw.trans (hb.mono hbw.size))) (HAT.out k hlt) hfl)
    have HOWN := Lib.hid hown
    have HBLK := Lib.hid hown.blk
    have HBW := Lib.hid hbw
    have HTK : Hid ((l.take (k + 1)).map (fun x => (readC x).1) = (l.take k).map (fun x => (readC x).1) ++ [(readC l[k]).1]) := by
      unfold Hid
      rw [List.take_succ_eq_append_getElem hlt, List.map_append]
      rfl
    have HKL : Hid (((l.take k).map (fun x => (readC x).1)).length < 100000000000) := by
      unfold Hid
      rw [List.length_map, List.length_take]
      omega
    have HER := Lib.hid (fun h => HR.out.trans (reads_err l k hlt (fun i hi => HZ.out i (by omega) hi) h))
    clear hat hrd hown hbw hsm hfl
    generalize hcx : lc k = cx at *
    generalize hrc : readC l[k] = rc at *
    have HRK := Lib.hid hrc
    clear hcx hrc
    have hk0 : (0 : Int) ≤ (k : Int) := by omega
    go_upto_region 9 with fail
    clear x11
    obtain ⟨⟨-, -, -, -, -, -, -, -, -, -, -, x11, -⟩, -⟩ := box13 HBX.out
    go_wp2_with (refine wpl_load rfl rfl stVk rfl (cells_len _) HAT1.out ?_)
    refine (HRC.out _ (Below.refl _ _)).mono ?_
    rintro e w6 ⟨c6, rfl, hone6, hrd6, hb6⟩
    obtain ⟨rx, rn⟩ := rc
    dsimp only at hrd6 HER HTK ⊢
    have HB6 := Lib.hid hb6
    have HRD6 := Lib.hid hrd6
    have HONE6 := Lib.hid hone6
    have HBX6 := Lib.hid (box_below HBX.out hb6)
    clear hb6 hrd6 hone6 HRC HAT1 HONE HBX x11
    go_upto_region 10 with (refine wpl_new rfl rfl stC rfl (cs := CC.cells c6) rfl (ccells_len _) HONE6.out rfl rfl rfl ?_; generalize hW5 : World.alloc w6 _ = w7; obtain ⟨hd7, -, hz7, hb7⟩ := alloc_of hW5; have HD7 := Lib.hid hd7; have HB7 := Lib.hid (HB6.out.trans (hb7.mono HB6.out.size)); have HS7 := Lib.hid hb7; have HBX7 := Lib.hid (box_below HBX6.out hb7); have HX7 : Hid (w.heap.size + 1 ≤ w7.heap.size) := (Array.getElem?_eq_some_iff.1 HBX7.out).1; clear hW5 hd7 hz7 hb7)
    by_cases hz : rn = 0
    case neg =>
      have HF := Lib.hid (HER.out hz)
      have hq : ((rn : Int) != 0) = true := by rw [bne_iff_ne]; omega
      clear hz HER HR HZ HAT HWD HRD HCE HSM HRK HRD6 HTK
      go_wp2_with fail
      go_ret2
      exact ⟨_, by rw [HF.out]; rfl, by rw [HF.out]; exact nil_rdl _, HBW.out.trans (HB7.out.mono HBW.out.size)⟩
    subst hz
    have HCX : Hid (RdC w6 (fun b => True ∧ some b ≠ u4.ownBlock) c6 rx) := by
      refine stbC.mono (HRD6.out rfl) (fun b hb => ?_)
      have h2 := HBW.out.size
      exact ⟨trivial, fun h => by have := HBLK.out b h.symm; omega⟩
    have HZ' : Hid (∀ i (hi : i < l.length), i < k + 1 → (readC l[i]).2 = 0) := by
      intro i hi hik
      by_cases h : i = k
      · subst h
        rw [HRK.out]
      · exact HZ.out i hi (by omega)
    clear HER HR HZ HAT HWD HRD HCE HSM HRK HRD6
    go_wp2_with (first
      | (at_builtin; obtain ⟨cs, hcl, hrow, hrds⟩ := HOWN.out.below stbC HB7.out; refine wp_push2 elemC rfl _ _ rfl hrow (CC.cells c6) (ccells_len _) HONE6.out rfl rfl HKL.out (by have := HX7.out; omega) ?_; intro v9 w9 hn9 hg9 hb9 hf9; have HP9 := Lib.hid (OwnN.push stbC hcl hrds (HCX.out.stays HS7.out) hn9 (fun b _ hb hne => hg9.block b hb hne) hg9.size hf9); have HG9 := Lib.hid hg9; clear hcl hrow hrds hn9 hg9 hb9 hf9)
      | (refine wpl_slice rfl rfl elemC rfl (cs := CC.cells c6) rfl (ccells_len _) (by decide) ?_)
      | refine wpl_load rfl rfl stC rfl (ccells_len _) (rowC HD7.out).2.1 ?_)
    have HBX9 := Lib.hid ((HG9.out.block w.heap.size (by have := HX7.out; omega) (fun h => by have := HBLK.out _ h.symm; omega)).trans HBX7.out)
    have HB9 : Hid (Below w.heap.size w _) := HBW.out.trans (HB7.out.mono HBW.out.size) |>.trans ⟨HG9.out.os, HG9.out.tape, HG9.out.output, HG9.out.size, fun b hb => HG9.out.block b (by have := HX7.out; omega) (fun h => by have := HBLK.out _ h.symm; omega)⟩
    exact ⟨⟨k + 1, by omega, by go_num, by rw [HTK.out]; exact HP9.out, HB9.out, HBX9.out, HZ'.out⟩, by simp [intOf]; omega⟩
end Go.Proofs.YtemiihkmpojpgaaGreatDoor

namespace Go.Proofs.YtemiihkmpojpgaaGreatDoor
open Go.RowKit
set_option maxHeartbeats 4000000
set_option maxRecDepth 100000

theorem look_one {h : Hd} {l : List V} {f : List (ByteArray × V)} {d s : Int} (h0 : (lookV (.mk h l f) d s).2 = 0) : oneE h l.length (f.map (·.1)) = 0 ∧ (lookL (kidsV (.mk h l f)) (d + 1) (s + 1)).2 = 0 := by
  rw [lookV_mk] at h0
  split at h0
  · cases h0
  split at h0
  · cases h0
  split at h0
  · rename_i hh
    exact absurd h0 hh
  · rename_i hh
    exact ⟨Classical.byContradiction hh, h0⟩
theorem lookL_each : ∀ (t : List V) (d s : Int), (lookL t d s).2 = 0 → ∀ x ∈ t, ∃ s', (lookV x d s').2 = 0
  | [], _, _, _, x, hx => by cases hx
  | y :: t, d, s, h, x, hx => by
    rw [lookL] at h
    split at h
    · rename_i hh
      exact absurd h hh
    · rename_i hh
      rcases List.mem_cons.1 hx with rfl | hx
      · exact ⟨s, Classical.byContradiction hh⟩
      · exact lookL_each t d _ h x hx
theorem oneE_own {h : Hd} {n : Nat} {ks : List ByteArray} (h0 : oneE h n ks = 0) : ownB h n ks.length = true ∧ decB h.neg (L h.ds) h.exp = true := by
  unfold oneE at h0
  split at h0
  · cases h0
  split at h0
  · cases h0
  · rename_i h1 h2
    refine ⟨by cases ho : ownB h n ks.length; exact absurd ho h1; rfl, ?_⟩
    cases hd : decB h.neg (L h.ds) h.exp
    · exact absurd (.inl hd) h2
    · rfl
theorem decB_small {neg : Bool} {s : ByteArray} {e : Int} (h : decB neg (L s) e = true) : s.size ≤ 120 ∧ e ≤ 400 ∧ -400 ≤ e := by
  unfold decB at h
  split at h
  · rename_i hl
    rw [Bool.and_eq_true, decide_eq_true_iff] at h
    have : s.size = 0 := by rw [← L_len, hl]; rfl
    omega
  · simp only [Bool.and_eq_true, decide_eq_true_iff] at h
    have := L_len s
    omega
theorem fieldF_mem {key : ByteArray} : ∀ {f : List (ByteArray × V)} {y : V}, fieldF key f = some y → y ∈ f.map (·.2)
  | [], _, h => by cases h
  | (k, x) :: t, y, h => by
    rw [fieldF] at h
    split at h
    · cases h
      simp
    · exact List.mem_cons_of_mem _ (fieldF_mem h)
theorem at_of_look {x : V} {d s : Int} (h : (lookV x d s).2 = 0) : AtOk x := by
  intro y hy
  obtain ⟨h', l, f⟩ := x
  obtain ⟨h1, h2⟩ := look_one h
  obtain ⟨ho, -⟩ := oneE_own h1
  have hm : y ∈ f.map (·.2) := fieldF_mem hy
  have hk : h'.kind = 7 := by
    unfold ownB at ho
    rw [decide_eq_true_iff] at ho
    rcases ho.2.2.2.2.2.2.2.2 with h7 | h7
    · exact h7
    · rw [List.length_map] at h7
      have := List.length_eq_zero_iff.1 h7
      subst this
      cases hm
  obtain ⟨s', hs'⟩ := lookL_each _ _ _ h2 y (by rw [kidsV, if_pos hk]; exact hm)
  obtain ⟨h'', l', f'⟩ := y
  have hd := (oneE_own (look_one hs').1).2
  exact ⟨hd, decB_small hd⟩
theorem at_of_check {v : V} (h : checkV v = 0) : ∀ x ∈ lsV v, AtOk x := by
  intro x hx
  obtain ⟨h', l, f⟩ := v
  obtain ⟨h1, h2⟩ := look_one (d := 1) (s := 0) h
  obtain ⟨ho, -⟩ := oneE_own h1
  have hk : h'.kind ≠ 7 := by
    intro hk
    unfold ownB at ho
    rw [decide_eq_true_iff] at ho
    rcases ho.2.2.2.2.2.2.2.1 with h6 | h6
    · omega
    · have := List.length_eq_zero_iff.1 h6
      subst this
      cases hx
  obtain ⟨s', hs'⟩ := lookL_each _ _ _ h2 x (by rw [kidsV, if_neg hk]; exact hx)
  exact at_of_look hs'
theorem ReadsLaw_any (v : V) (c : VC) (w : World) (hv : RdV w c v) (he : Env w) (hw : WordsOk w) :
    Calls Tryz.prog 3 #[aggV c] w fun e w' => e = .returned (.bool true) ∧ Below w.heap.size w w' := by
  have HV := Lib.hid hv
  have HE := Lib.hid he
  have HWD := Lib.hid hw
  obtain ⟨q, hq⟩ : ∃ q, q = decide (0 ≤ roomV v 400 60) := ⟨_, rfl⟩
  have HQ := Lib.hid hq
  have HSM : Hid (∀ w', Below w.heap.size w w' → Calls Tryz.prog 4 #[aggV c, .int .i64 400, .int .i64 60] w' fun e w2 => e = .returned (.bool q) ∧ Below w'.heap.size w' w2) := by
    intro w' hb
    rw [hq]
    exact Small_any v c w' 400 60 (by decide) (by decide) (by decide) (by decide) (hv.stays hb)
  have HCK : Hid (∀ w', nodV v ≤ 1000000 → Below w.heap.size w w' → Calls Tryz.prog 5 #[aggV c] w' fun e w2 => e = .returned (.int .i64 (checkV v : Nat)) ∧ Below w'.heap.size w' w2) := fun w' hn hb => Check7_any v c w' hn (hv.stays hb)
  clear hv he hw hq
  go_enter Tryz.func3, Tryz.ntmps3
  obtain ⟨h, a1, a2, a3, n1, n2, n3, m1, m2, m3, rfl⟩ := HV.out.forms
  obtain ⟨b0, b1, b2, b3, b4, b5, b6, b7, b8, b9, b10⟩ := h
  go_upto_region 1 with fail
  generalize hW1 : World.alloc w _ = w1
  obtain ⟨ha1, -, hz1, hb1⟩ := alloc_of hW1
  have HBX : Hid (w1.heap[w.heap.size]? = some (.cells (VC.cells ⟨⟨b0, b1, b2, b3, b4, b5, b6, b7, b8, b9, b10⟩, .slice a1 n1 m1, .slice a2 n2 m2, .slice a3 n3 m3⟩).toArray 30 (0, 0))) := ha1
  have HBW := Lib.hid hb1
  clear hW1 ha1 hz1 hb1
  have HC := Lib.hid (rowV HBX.out)
  go_wp2_with (refine wpl_load rfl rfl stVk rfl (cells_len _) HC.out ?_)
  refine (HSM.out _ HBW.out).mono ?_
  rintro e w2 ⟨rfl, hb⟩
  replace HBX := Lib.hid (box_below HBX.out hb)
  replace HBW := Lib.hid (HBW.out.trans (hb.mono HBW.out.size))
  clear hb HC HSM
  cases q with
  | false =>
    clear HQ HCK
    go_wp2_with fail
    go_ret
    exact ⟨rfl, HBW.out⟩
  | true =>
  obtain ⟨hr1, hr2⟩ := roomV_is v 400 60 (of_decide_eq_true HQ.out.symm)
  have hr0 := of_decide_eq_true HQ.out.symm
  have HN : Hid (nodV v ≤ 400 ∧ depV v ≤ 60) := by
    unfold Hid
    omega
  clear hr0 hr1 hr2 HQ
  have HC := Lib.hid (rowV HBX.out)
  go_wp2_with (refine wpl_loadG rfl stVk rfl rfl (cells_len _) HC.out ?_)
  refine (HCK.out _ (by have := HN.out; omega) HBW.out).mono ?_
  rintro e w3 ⟨rfl, hb⟩
  replace HBX := Lib.hid (box_below HBX.out hb)
  replace HBW := Lib.hid (HBW.out.trans (hb.mono HBW.out.size))
  clear hb HC HCK
  by_cases hc : checkV v = 0
  case neg =>
    have hq : (((checkV v : Nat) : Int) != 0) = true := by rw [bne_iff_ne]; omega
    clear hc
    go_wp2_with fail
    go_ret
    exact ⟨rfl, HBW.out⟩
  have hq : (((checkV v : Nat) : Int) != 0) = false := by rw [bne_eq_false_iff_eq]; omega
  have HAT := Lib.hid (at_of_check hc)
  clear hc
  have HC := Lib.hid (rowV HBX.out)
  go_wp2_with (refine wpl_load rfl rfl stVk rfl (cells_len _) HC.out ?_)
  refine (PRead_any v ⟨⟨b0, b1, b2, b3, b4, b5, b6, b7, b8, b9, b10⟩, .slice a1 n1 m1, .slice a2 n2 m2, .slice a3 n3 m3⟩ w3 (by have := HN.out; omega) (by have := HN.out; omega) (HV.out.stays HBW.out) (HE.out.below HBW.out) HAT.out).mono ?_
  rintro e w4 ⟨sa, rfl, hra, hb⟩
  have HRA := Lib.hid hra
  replace HBX := Lib.hid (box_below HBX.out hb)
  replace HBW := Lib.hid (HBW.out.trans (hb.mono HBW.out.size))
  clear hb hra HC hq
  have HC := Lib.hid (rowV HBX.out)
  go_wp2_with (refine wpl_load rfl rfl stVk rfl (cells_len _) HC.out ?_)
  refine (RRead_any v ⟨⟨b0, b1, b2, b3, b4, b5, b6, b7, b8, b9, b10⟩, .slice a1 n1 m1, .slice a2 n2 m2, .slice a3 n3 m3⟩ w4 (by have := HN.out; omega) (HV.out.stays HBW.out) (HWD.out.below HBW.out) HAT.out).mono ?_
  rintro e w5 ⟨sb, rfl, hrb, hb⟩
  replace HRA := Lib.hid (HRA.out.below hb)
  have HRB := Lib.hid hrb
  replace HBW := Lib.hid (HBW.out.trans (hb.mono HBW.out.size))
  clear hb hrb HC HBX
  generalize readV v = rr at *
  obtain ⟨xs, n⟩ := rr
  dsimp only at HRA HRB ⊢
  have hq : (((n : Nat) : Int) == ((n : Nat) : Int)) = true := beq_self_eq_true _
  go_wp2_with fail
  refine (Same55_any _ _ xs w5 HRA.out HRB.out).mono ?_
  rintro e w6 ⟨rfl, hb⟩
  replace HBW := Lib.hid (HBW.out.trans (hb.mono HBW.out.size))
  clear hb
  go_wp2_with fail
  go_ret
  exact ⟨rfl, HBW.out⟩
end Go.Proofs.YtemiihkmpojpgaaGreatDoor
