/- value.Copy, datakitref07.room and Small walked. Conditions: at most 10^6 values in all. -/
import Derived.Test.YtemiihkmpojpgaaGreatDoorZq13
import Derived.IntWalk
import Derived.Deep.RegionHeld3
import Derived.Deep.AppendLies
namespace Go.Proofs.YtemiihkmpojpgaaGreatDoor
open Go.RowKit
set_option maxHeartbeats 4000000
set_option maxRecDepth 100000

/-- What a copy hands back. -/
def CpPost (w : World) (v : V) (e : Ending) (w' : World) : Prop := ∃ c, e = .returned (aggV c) ∧ RdI w' (fun b => w.heap.size ≤ b) c v ∧ Below w.heap.size w w'
theorem box13 {w : World} {g : Nat} {t : TypeId} {a0 a1 a2 a3 a4 a5 a6 a7 a8 a9 a10 a11 a12 : Value} (h : w.heap[g]? = some (.cells #[a0, a1, a2, a3, a4, a5, a6, a7, a8, a9, a10, a11, a12] t (0, 0))) :
    (w.cell? ⟨g, 0, none⟩ = some a0 ∧ w.cell? ⟨g, 1, none⟩ = some a1 ∧ w.cell? ⟨g, 2, none⟩ = some a2 ∧ w.cell? ⟨g, 3, none⟩ = some a3 ∧ w.cell? ⟨g, 4, none⟩ = some a4 ∧ w.cell? ⟨g, 5, none⟩ = some a5 ∧ w.cell? ⟨g, 6, none⟩ = some a6 ∧
      w.cell? ⟨g, 7, none⟩ = some a7 ∧ w.cell? ⟨g, 8, none⟩ = some a8 ∧ w.cell? ⟨g, 9, none⟩ = some a9 ∧ w.cell? ⟨g, 10, none⟩ = some a10 ∧ w.cell? ⟨g, 11, none⟩ = some a11 ∧ w.cell? ⟨g, 12, none⟩ = some a12) ∧ (∀ j, w.frozen? ⟨g, j, none⟩ = false) := by
  refine ⟨⟨?_, ?_, ?_, ?_, ?_, ?_, ?_, ?_, ?_, ?_, ?_, ?_, ?_⟩, fun j => ?_⟩
  all_goals first
    | exact (cell_of_row w g _ _ t (0, 0) h).trans rfl
    | (simp [World.frozen?, h])
theorem elemV : Elem Tryz.prog 27 30 13 := elem_of (z := .agg #[.int .i64 0, .bool false, .bool false, .string ⟨#[]⟩, .int .i64 0, .int .i64 0, .int .i64 0, .int .i64 0, .int .i64 0, .string ⟨#[]⟩, .slice none 0 0, .slice none 0 0, .slice none 0 0]) (bytes := 168) Tryz.underlying27 (by kernel_rfl) (by decide) (by decide) rfl
theorem elemF : Elem Tryz.prog 28 53 14 := elem_of (z := .agg #[.string ⟨#[]⟩, .int .i64 0, .bool false, .bool false, .string ⟨#[]⟩, .int .i64 0, .int .i64 0, .int .i64 0, .int .i64 0, .int .i64 0, .string ⟨#[]⟩, .slice none 0 0, .slice none 0 0, .slice none 0 0]) (bytes := 184) Tryz.underlying28 (by kernel_rfl) (by decide) (by decide) rfl
theorem RdI.forms {w : World} {S : Nat → Prop} {c : VC} {v : V} (h : RdI w S c v) : ∃ (h : Hd) (a1 a2 a3 : Option Addr) (n1 n2 n3 m1 m2 m3 : Nat), c = ⟨h, .slice a1 n1 m1, .slice a2 n2 m2, .slice a3 n3 m3⟩ := by
  cases h with
  | mk h l f bv lv fv lc fc ok hb hl hL hf hK hF sb sl sf =>
    obtain ⟨a1, m1, rfl, _⟩ := hb
    obtain ⟨a2, m2, rfl, _⟩ := hl
    obtain ⟨a3, m3, rfl, _⟩ := hf
    exact ⟨h, a1, a2, a3, _, _, _, m1, m2, m3, rfl⟩
theorem copied_any : ∀ (n : Nat) (v : V) (c : VC) (w : World) (left : Int), SizeOf.sizeOf v ≤ n → nodV v ≤ 1000000 → (depV v : Int) ≤ left → left ≤ 65536 → RdV w c v →
    Calls Tryz.prog 37 #[aggV c, .int .i64 left] w (CpPost w v) := by
  intro n
  induction n with
  | zero => intro v c w left hn; exfalso; cases v; rw [V.mk.sizeOf_spec] at hn; omega
  | succ n ih =>
    intro v c w left hn hnod hdep hleft hv
    cases hv with
    | mk h l f bv lv fv lc fc ok hB hl hL hf hK hF _ _ _ =>
    have IH := Lib.hid ih; clear ih
    rw [nodV_mk] at hnod
    rw [depV_mk] at hdep
    obtain ⟨la, lcap, rfl, hl1, ⟨hl2, _⟩, hl3, hl4⟩ := hl
    obtain ⟨fa, fcap, rfl, hf1, ⟨hf2, _⟩, hf3, hf4⟩ := hf
    have HL := Lib.hid hl4; clear hl4
    have HFc := Lib.hid hf4; clear hf4
    have HLi := Lib.hid hL; clear hL
    have HFi := Lib.hid hF; clear hF
    have HK := Lib.hid hK; clear hK
    have HOK := Lib.hid ok; clear ok
    have HB := Lib.hid hB; clear hB
    have HNL := Lib.hid (nodL_len l)
    have HNF := Lib.hid (nodF_len f)
    obtain ⟨a0, a1, a2, a3, a4, a5, a6, a7, a8, a9, a10⟩ := h
    dsimp only at HB
    simp only [aggV]
    have h0 : ¬ (left < 1) := by omega
    have hb2 : ∀ x y, Below w.heap.size w ((w.alloc x).alloc y) := fun x y => ((Below.refl _ w).alloc (Nat.le_refl _) _).alloc (by simp) _
    have HB2 := Lib.hid hb2; clear hb2
    go_enter Tryz.func37, Tryz.ntmps37
    go_wp2_with fail
    refine (Clone_any bv a10 _ (HB.out.below (HB2.out _ _))).mono ?_
    rintro e w2 ⟨bv', rfl, hbv, hbk, hb⟩
    have hx : w2.heap[w.heap.size]? = some (.cells #[.int .i64 a0, .bool a1, .bool a2, .string a3, .int .i64 a4, .int .i64 a5, .int .i64 a6, .int .i64 a7, .int .i64 a8, .string a9, bv, .slice la l.length lcap, .slice fa f.length fcap] 30 (0, 0)) :=
      (hb.block _ (by simp only [World.size_alloc]; omega)).trans ((heap_alloc_old _ _ (by simp)).trans (heap_alloc_new w _))
    have hy : w2.heap[w.heap.size + 1]? = some (.cells #[.int .i64 0, .bool false, .bool false, .string ⟨#[]⟩, .int .i64 0, .int .i64 0, .int .i64 0, .int .i64 0, .int .i64 0, .string ⟨#[]⟩, .slice none 0 0, .slice none 0 0, .slice none 0 0] 30 (0, 0)) :=
      (hb.block _ (by simp only [World.size_alloc]; omega)).trans (by have := heap_alloc_new (w.alloc (.cells #[.int .i64 a0, .bool a1, .bool a2, .string a3, .int .i64 a4, .int .i64 a5, .int .i64 a6, .int .i64 a7, .int .i64 a8, .string a9, bv, .slice la l.length lcap, .slice fa f.length fcap] 30)) (.cells #[.int .i64 0, .bool false, .bool false, .string ⟨#[]⟩, .int .i64 0, .int .i64 0, .int .i64 0, .int .i64 0, .int .i64 0, .string ⟨#[]⟩, .slice none 0 0, .slice none 0 0, .slice none 0 0] 30); simpa using this)
    obtain ⟨⟨x0, x1, x2, x3, x4, x5, x6, x7, x8, x9, x10, x11, x12⟩, xf⟩ := box13 hx
    have hb3 : Below w.heap.size w w2 := (HB2.out _ _).trans (hb.mono (by simp only [World.size_alloc]; omega))
    have hz2 := hb.size
    simp only [World.size_alloc] at hz2
    obtain ⟨ba, bcap, rfl, hbv1⟩ := hbv
    have hx3 : (w2.setCell ⟨w.heap.size, 10, none⟩ (.slice ba a10.length bcap)).heap[w.heap.size]? = some (.cells #[.int .i64 a0, .bool a1, .bool a2, .string a3, .int .i64 a4, .int .i64 a5, .int .i64 a6, .int .i64 a7, .int .i64 a8, .string a9, .slice ba a10.length bcap, .slice la l.length lcap, .slice fa f.length fcap] 30 (0, 0)) := by
      rw [heap_setCell_same w2 w.heap.size 10 _ _ _ hx]; rfl
    have hy3 : (w2.setCell ⟨w.heap.size, 10, none⟩ (.slice ba a10.length bcap)).heap[w.heap.size + 1]? = some (.cells #[.int .i64 0, .bool false, .bool false, .string ⟨#[]⟩, .int .i64 0, .int .i64 0, .int .i64 0, .int .i64 0, .int .i64 0, .string ⟨#[]⟩, .slice none 0 0, .slice none 0 0, .slice none 0 0] 30 (0, 0)) := by
      rw [heap_setCell_other w2 ⟨w.heap.size, 10, none⟩ (w.heap.size + 1) _ (by simp only []; omega)]; exact hy
    have hb4 : Below w.heap.size w (w2.setCell ⟨w.heap.size, 10, none⟩ (.slice ba a10.length bcap)) := hb3.setCell (p := ⟨w.heap.size, 10, none⟩) (Nat.le_refl _) _
    have hbk : BlkIn (fun b => w.heap.size + 2 ≤ b) (.slice ba a10.length bcap) := hbk.mono (fun b hb => by simp only [World.size_alloc] at hb; omega)
    have hbv : RdB (w2.setCell ⟨w.heap.size, 10, none⟩ (.slice ba a10.length bcap)) (.slice ba a10.length bcap) a10 := Sl.kept (w := w2) ⟨ba, bcap, rfl, hbv1⟩ hbk (fun b hb _ => heap_setCell_other w2 _ b _ (by dsimp only; omega)) (by simp)
    have hz3 : w.heap.size + 2 ≤ (w2.setCell ⟨w.heap.size, 10, none⟩ (.slice ba a10.length bcap)).heap.size := by rw [World.size_setCell]; omega
    have HX3 := Lib.hid hx3
    have HY3 := Lib.hid hy3
    have HB4 := Lib.hid hb4
    have HZ3 := Lib.hid hz3
    have HBK := Lib.hid hbk
    have HBV := Lib.hid hbv
    clear hx hy hb hbk hbv hbv1 hx3 hy3 hb4 hz3 hb3 HB2 HB
    go_wp2_with fail
    generalize (w2.setCell ⟨w.heap.size, 10, none⟩ (.slice ba a10.length bcap)) = w3 at *
    clear x0 x1 x2 x3 x4 x5 x6 x7 x8 x9 x10 x11 x12 xf hz2
    go_loopw [5, 7, 23] (fun o _ i wr => ∃ k : Nat, k ≤ l.length ∧ i = .int .i64 k ∧ OwnT 30 13 VC.cells RdI wr w3.heap.size o (l.take k) ∧ Below w3.heap.size w3 wr) (fun _ _ i _ => l.length - (intOf i).toNat)
    case atStart => exact ⟨0, by omega, rfl, by rw [List.take_zero]; exact OwnT.nil, Below.refl _ _⟩
    case round =>
      obtain ⟨k, hk, rfl, hown, hbw⟩ := hrel
      by_cases hlt : k < l.length
      case pos =>
        obtain ⟨g, o, rfl, hg, hat⟩ := HL.out (by omega)
        have hbw0 : Below w.heap.size w wr := HB4.out.trans (hbw.mono (by have := HZ3.out; omega))
        have hrd := (HLi.out k hlt).stays hbw0
        have hsz := sz_l ⟨a0, a1, a2, a3, a4, a5, a6, a7, a8, a9, a10⟩ l f k hlt
        have hn1 := nodL_at l k hlt
        have hd1 := depL_at l k hlt
        have hc13 := fun j hj => (hbw0.cell hg).trans (hat k hlt j hj)
        have HS := Lib.hid (List.take_succ_eq_append_getElem hlt)
        have HIH := Lib.hid (fun w' (hb' : Below wr.heap.size wr w') => IH.out l[k] (lc k) w' (left - 1) (by omega) (by omega) (by omega) (by omega) (hrd.stays hb'))
        have hfm := hrd.forms
        clear hat hrd hsz hn1 hd1
        generalize l[k] = x at *
        generalize lc k = c at *
        obtain ⟨⟨p0, p1, p2, p3, p4, p5, p6, p7, p8, p9, p10⟩, q1, q2, q3, n1, n2, n3, m1, m2, m3, rfl⟩ := hfm
        obtain ⟨c0, c1, c2, c3, c4, c5, c6, c7, c8, c9, c10, c11, c12⟩ := cells13 hc13
        simp only at c0 c1 c2 c3 c4 c5 c6 c7 c8 c9 c10 c11 c12
        clear hc13
        have hz := hbw.size
        go_wp2_with fail
        refine (HIH.out _ ((Below.refl _ _).alloc (Nat.le_refl _) _)).mono ?_
        rintro e w4 ⟨c', rfl, hrd4, hb5⟩
        simp only [World.size_alloc] at hrd4 hb5
        have hb6 : Below wr.heap.size wr w4 := ((Below.refl _ _).alloc (Nat.le_refl _) _).trans (hb5.mono (Nat.le_succ _))
        have hz6 := hb6.size
        have hob := Lib.hid hown.blk
        obtain ⟨cs, hcl, hown4, hrds⟩ := hown.below stbV hb6
        have hrd5 : RdI w4 (fun b => w3.heap.size ≤ b ∧ some b ≠ u5.ownBlock) c' x := by
          refine hrd4.mono (fun b hb => ⟨by omega, fun hh => ?_⟩)
          have := hob.out b hh.symm
          omega
        have HRS := Lib.hid hrds
        have HR5 := Lib.hid hrd5
        have HTL := Lib.hid (show (l.take k).length = k by rw [List.length_take]; omega)
        have hkl : (l.take k).length < 100000000000 := by rw [HTL.out]; have := HNL.out; omega
        clear hown hrds hrd5 hrd4 hb5 hob
        go_wp2_with (at_builtin; refine wp_push2 elemV rfl _ _ rfl hown4 c'.cells rfl (by intro u hu; obtain ⟨h, b1, b2, b3, m1, m2, m3, o1, o2, o3, rfl⟩ := HR5.out.forms; simp [VC.cells] at hu; rcases hu with rfl | rfl | rfl | rfl | rfl | rfl | rfl | rfl | rfl | rfl | rfl | rfl | rfl <;> rfl) rfl rfl hkl (by omega) ?_; intro v' w5 hown5 hg5 hb5 hf5)
        exact ⟨⟨k + 1, by omega, rfl, by rw [HS.out]; exact OwnT.push stbV hcl HRS.out HR5.out hown5 hg5 hf5, (hbw.trans (hb6.mono hz)).trans hb5⟩, by simp [intOf]; omega⟩
      case neg =>
        rw [List.take_of_length_le (by omega)] at hown
        have HO := Lib.hid (hown.sl stbV cells_len ⟨⟨0, false, false, ⟨#[]⟩, 0, 0, 0, 0, 0, ⟨#[]⟩, []⟩, .slice none 0 0, .slice none 0 0, .slice none 0 0⟩ (by have := HNL.out; omega))
        have hbw0 : Below w.heap.size w wr := HB4.out.trans (hbw.mono (by have := HZ3.out; omega))
        have hz := hbw.size
        have HX4 := Lib.hid ((hbw.block w.heap.size (by have := HZ3.out; omega)).trans HX3.out)
        have HY4 := Lib.hid ((hbw.block (w.heap.size + 1) (by have := HZ3.out; omega)).trans HY3.out)
        have HBV4 := Lib.hid (RdB.below HBV.out hbw)
        have HB5 := Lib.hid hbw0
        have HZ4 : Hid (w.heap.size + 2 ≤ wr.heap.size) := by unfold Hid; have := HZ3.out; omega
        obtain ⟨⟨x0, x1, x2, x3, x4, x5, x6, x7, x8, x9, x10, x11, x12⟩, xf⟩ := box13 HX4.out
        clear hown HB4 HX3 HY3 HBV HL HLi hbw hbw0 hz
        go_wp2_with fail
        obtain ⟨wo, rfl⟩ : ∃ wo : World, wo = wr := ⟨_, rfl⟩
        clear x0 x1 x2 x3 x4 x5 x6 x7 x8 x9 x10 x11 x12 xf hlt hk
        go_loopw [8, 10, 38] (fun ov _ i wq => ∃ k : Nat, k ≤ f.length ∧ i = .int .i64 k ∧ OwnT 53 14 fcells RdF wq wo.heap.size ov (f.take k) ∧ Below wo.heap.size wo wq) (fun _ _ i _ => f.length - (intOf i).toNat)
        case atStart => exact ⟨0, by omega, rfl, by rw [List.take_zero]; exact OwnT.nil, Below.refl _ _⟩
        case round =>
          obtain ⟨wq, rfl⟩ : ∃ wq : World, wq = wr := ⟨_, rfl⟩
          obtain ⟨k, hk, rfl, hown, hbw⟩ := hrel
          by_cases hlt : k < f.length
          case pos =>
            obtain ⟨g, o, rfl, hg, hat⟩ := HFc.out (by omega)
            have hbw0 : Below w.heap.size w wq := HB5.out.trans (hbw.mono (by have := HZ4.out; omega))
            have hrd := (HFi.out k hlt).stays hbw0
            have hsz := sz_f ⟨a0, a1, a2, a3, a4, a5, a6, a7, a8, a9, a10⟩ l f k hlt
            have hn1 := nodF_at f k hlt
            have hd1 := depF_at f k hlt
            have hc14 := fun j hj => (hbw0.cell hg).trans (hat k hlt j hj)
            have ek : (f.getD k (⟨#[]⟩, .mk ⟨a0, a1, a2, a3, a4, a5, a6, a7, a8, a9, a10⟩ l f)).1 = f[k].1 := by rw [List.getD_eq_getElem?_getD, List.getElem?_eq_getElem hlt]; rfl
            have hc0 : wq.cell? ⟨g, o + k * 14, none⟩ = some (.string f[k].1) := by have := hc14 0 (by decide); rw [← ek]; exact this
            have hc13 : ∀ j, j < 13 → wq.cell? ⟨g, o + k * 14 + 1 + j, none⟩ = (fc k).cells[j]? := fun j hj => by have := hc14 (j + 1) (by omega); rw [show o + k * 14 + 1 + j = o + k * 14 + (j + 1) by omega]; exact this
            have HS := Lib.hid (List.take_succ_eq_append_getElem hlt)
            have HIH := Lib.hid (fun w' (hb' : Below wq.heap.size wq w') => IH.out f[k].2 (fc k) w' (left - 1) (by omega) (by omega) (by omega) (by omega) (hrd.stays hb'))
            have hfm := hrd.forms
            have hks := HK.out k hlt
            have HKS := Lib.hid hks
            clear hat hrd hsz hn1 hd1 hc14 ek hks
            generalize fc k = c at *
            obtain ⟨⟨p0, p1, p2, p3, p4, p5, p6, p7, p8, p9, p10⟩, q1, q2, q3, n1, n2, n3, m1, m2, m3, rfl⟩ := hfm
            generalize hfk : f[k] = x at *
            clear hfk
            obtain ⟨key, x⟩ := x
            simp only at hc0 HKS HIH
            obtain ⟨c0, c1, c2, c3, c4, c5, c6, c7, c8, c9, c10, c11, c12⟩ := cells13 hc13
            simp only at c0 c1 c2 c3 c4 c5 c6 c7 c8 c9 c10 c11 c12
            clear hc13
            have hz := hbw.size
            have hob := hown.blk
            obtain ⟨cs, hcl, hownq, hrds⟩ := hown
            have HRS := Lib.hid hrds
            have hne : some wq.heap.size ≠ u8.ownBlock := fun h => by have := hob _ h.symm; omega
            have HTL := Lib.hid (show (f.take k).length = k by rw [List.length_take]; omega)
            have hkl : (f.take k).length < 100000000000 := by rw [HTL.out]; have := HNF.out; omega
            have HIH2 := Lib.hid (fun w' (hb' : Below wq.heap.size wq w') (hz' : wq.heap.size + 1 ≤ w'.heap.size) => (HIH.out w' hb').mono (fun e w4 (h : CpPost w' x e w4) => show ∃ c', e = .returned (aggV c') ∧ RdI w4 (fun b => wq.heap.size + 1 ≤ b) c' x ∧ Below (wq.heap.size + 1) w' w4 from by
              obtain ⟨c', e1, e2, e3⟩ := h
              exact ⟨c', e1, e2.mono (fun b hb => by omega), e3.mono hz'⟩))
            clear HIH hrds hob
            go_wp2_with fail
            have hwr : IntKind.i64.wrap (left - 1) = left - 1 := IntWalk.i64_in _ ⟨by omega, by omega⟩
            go_region_held3 (fun w' => w'.cell? ⟨wq.heap.size, 0, none⟩ = some (.string key) ∧ w'.cell? ⟨wq.heap.size, 1, none⟩ = some (.int .i64 p0) ∧ w'.cell? ⟨wq.heap.size, 2, none⟩ = some (.bool p1) ∧ w'.cell? ⟨wq.heap.size, 3, none⟩ = some (.bool p2) ∧ w'.cell? ⟨wq.heap.size, 4, none⟩ = some (.string p3) ∧
                w'.cell? ⟨wq.heap.size, 5, none⟩ = some (.int .i64 p4) ∧ w'.cell? ⟨wq.heap.size, 6, none⟩ = some (.int .i64 p5) ∧ w'.cell? ⟨wq.heap.size, 7, none⟩ = some (.int .i64 p6) ∧ w'.cell? ⟨wq.heap.size, 8, none⟩ = some (.int .i64 p7) ∧ w'.cell? ⟨wq.heap.size, 9, none⟩ = some (.int .i64 p8) ∧ w'.cell? ⟨wq.heap.size, 10, none⟩ = some (.string p9) ∧
                w'.cell? ⟨wq.heap.size, 11, none⟩ = some (.slice q1 n1 m1) ∧ w'.cell? ⟨wq.heap.size, 12, none⟩ = some (.slice q2 n2 m2) ∧ w'.cell? ⟨wq.heap.size, 13, none⟩ = some (.slice q3 n3 m3))
              (first
                | go_keep
                | (go_split_ands
                   refine ⟨?_, ?_, ?_, ?_, ?_, ?_, ?_, ?_, ?_, ?_, ?_, ?_, ?_, ?_⟩ <;> first
                     | exact (hb5.cell (Nat.lt_succ_self _)).trans (by assumption)
                     | exact (hk5 _ _ hne (by have hz4 := hb5.size; simp at hz4; omega)).trans (by assumption)))
              (first
                | (refine step_push2 elemF (by rfl) _ _ (by rfl) (own_below hownq ((((Below.refl _ _).alloc (Nat.le_refl _) _).drew).trans (hb5.mono (Nat.le_succ _)))) (fcells (key, c')) (by rfl) (by intro u hu; obtain ⟨h, b1, b2, b3, m1, m2, m3, o1, o2, o3, rfl⟩ := hrd5.forms; simp [fcells, VC.cells] at hu; rcases hu with rfl | rfl | rfl | rfl | rfl | rfl | rfl | rfl | rfl | rfl | rfl | rfl | rfl | rfl <;> rfl) (by rfl) (by rfl) hkl (by have hz4 := hb5.size; simp at hz4; omega) ?_; intro v' w5 hown5 hg5 hb6 hf5 hk5)
                | (go_at_call 37; refine (HIH2.out _ (((Below.refl _ _).alloc (Nat.le_refl _) _).drew) (by simp)).mono ?_; rintro e w4 ⟨c', rfl, hrd5, hb5⟩))
            have hB4 : Below wq.heap.size wq w4 := (((Below.refl _ _).alloc (Nat.le_refl _) _).drew).trans (hb5.mono (Nat.le_succ _))
            have HR6 : Hid (RdI w4 (fun b => wo.heap.size ≤ b ∧ some b ≠ u8.ownBlock) c' x) := hrd5.mono (fun b hb => ⟨by omega, fun hh => by have := hownq.lt b hh.symm; omega⟩)
            clear hwr
            go_wp2_with fail
            exact ⟨⟨k + 1, by omega, rfl, by rw [HS.out]; exact OwnT.push stbF hcl (fun i h h' => stbF.mono (stbF.kept (HRS.out i h h') (fun b _ hb' => hB4.block b hb') hB4.size) (fun b h => h.1)) ⟨rfl, HKS.out, HR6.out⟩ hown5 hg5 hf5, (hbw.trans (hB4.mono hz)).trans hb6⟩, by simp [intOf]; omega⟩
          case neg =>
            rw [List.take_of_length_le (by omega)] at hown
            have HOF := Lib.hid (hown.sl stbF fcells_len (⟨#[]⟩, ⟨⟨0, false, false, ⟨#[]⟩, 0, 0, 0, 0, 0, ⟨#[]⟩, []⟩, .slice none 0 0, .slice none 0 0, .slice none 0 0⟩) (by have := HNF.out; omega))
            have hz := hbw.size
            have hbw0 : Below w.heap.size w wq := HB5.out.trans (hbw.mono (by have := HZ4.out; omega))
            have hx5 := (hbw.block w.heap.size (by have := HZ4.out; omega)).trans HX4.out
            have hy5 := (hbw.block (w.heap.size + 1) (by have := HZ4.out; omega)).trans HY4.out
            have hz5 : w.heap.size + 2 ≤ wq.heap.size := by have := HZ4.out; omega
            have HX5 := Lib.hid hx5
            have HY5 := Lib.hid hy5
            obtain ⟨⟨x0, x1, x2, x3, x4, x5, x6, x7, x8, x9, x10, x11, x12⟩, xf⟩ := box13 hx5
            obtain ⟨⟨y0, y1, y2, y3, y4, y5, y6, y7, y8, y9, y10, y11, y12⟩, yf⟩ := box13 hy5
            have HBW := Lib.hid hbw
            have HB6 := Lib.hid hbw0
            obtain ⟨b5, c5, rfl⟩ : ∃ (a : Option Addr) (cap : Nat), u5 = .slice a l.length cap := by obtain ⟨_, ⟨a, cap, e, _⟩, _⟩ := HO.out; exact ⟨a, cap, e⟩
            obtain ⟨b8, c8, rfl⟩ : ∃ (a : Option Addr) (cap : Nat), u8 = .slice a f.length cap := by obtain ⟨_, ⟨a, cap, e, _⟩, _⟩ := HOF.out; exact ⟨a, cap, e⟩
            clear hown hx5 hy5 hbw hbw0 HX4 HY4
            go_wp2_with fail
            have hk : ∀ (w9 : World), (∀ b, w.heap.size + 2 ≤ b → w9.heap[b]? = wq.heap[b]?) → w9.heap.size = wq.heap.size → RdI w9 (fun b => w.heap.size ≤ b) ⟨⟨a0, a1, a2, a3, a4, a5, a6, a7, a8, a9, a10⟩, .slice ba a10.length bcap, .slice b5 l.length c5, .slice b8 f.length c8⟩ (.mk ⟨a0, a1, a2, a3, a4, a5, a6, a7, a8, a9, a10⟩ l f) := by
              intro w9 hk9 hz9
              have hzw := HZ4.out
              have hz3 := HZ3.out
              refine RdI.of_rows HOK.out ?_ (HBK.out.mono (fun b hb => by omega)) ?_ ?_
              · exact Sl.kept (HBV4.out.below HBW.out) HBK.out (fun b hb _ => hk9 b hb) (by omega)
              · refine rows_kept stbV HO.out (fun b hb hb' => (hk9 b (by omega)).trans (HBW.out.block b hb')) (by have := HBW.out.size; omega) (by omega)
              · exact rows_kept stbF HOF.out (fun b hb hb' => hk9 b (by omega)) (by omega) (by omega)
            refine bodyPost_ret (v := aggV ⟨⟨a0, a1, a2, a3, a4, a5, a6, a7, a8, a9, a10⟩, .slice ba a10.length bcap, .slice b5 l.length c5, .slice b8 f.length c8⟩) (by simp [results, Tryz.results37, go_sem, y0, y1, y2, y3, y4, y5, y6, y7, y8, y9, y10, y11, y12]) rfl ⟨_, rfl, hk _ (fun b hb => ?_) ?_, ?_⟩
            · repeat rw [heap_setCell_other _ _ b _ (by dsimp only; omega)]
            · simp
            · repeat refine Below.setCell ?_ (by dsimp only; omega) _
              exact HB6.out
end Go.Proofs.YtemiihkmpojpgaaGreatDoor

namespace Go.Proofs.YtemiihkmpojpgaaGreatDoor
open Go.RowKit
set_option maxHeartbeats 2000000
set_option maxRecDepth 100000

/-- A text, a number: their heads. -/
abbrev hdT (s : ByteArray) : Hd := ⟨4, false, false, ⟨#[]⟩, 0, 0, 0, 0, 0, s, []⟩
abbrev hdN (ng : Bool) (s : ByteArray) (x : Int) : Hd := ⟨2, false, ng, s, x, 0, 0, 0, 0, ⟨#[]⟩, []⟩
/-- A value of a head alone, all slices nil, as it is handed back. -/
def LeafPost (w : World) (h : Hd) (e : Ending) (w' : World) : Prop := e = .returned (aggV ⟨h, .slice none 0 0, .slice none 0 0, .slice none 0 0⟩) ∧ Below w.heap.size w w'
/-- A leaf reads in every world. -/
theorem leaf_rd (h : Hd) (ok : HdOk h) (hb : h.bytes = []) (w : World) (S : Nat → Prop) : RdI w S ⟨h, .slice none 0 0, .slice none 0 0, .slice none 0 0⟩ (.mk h [] []) := by
  have hB : RdB w (.slice none 0 0) h.bytes := by rw [hb]; exact Sl.nil
  have nb : ∀ S : Nat → Prop, BlkIn S (.slice none 0 0) := fun S g o p n cap hv _ => by cases hv
  exact RdI.mk h [] [] _ _ _ (fun _ => ⟨h, .slice none 0 0, .slice none 0 0, .slice none 0 0⟩) (fun _ => ⟨h, .slice none 0 0, .slice none 0 0, .slice none 0 0⟩) ok hB
    Sl.nil (fun i hi => absurd hi (Nat.not_lt_zero _)) Sl.nil (fun i hi => absurd hi (Nat.not_lt_zero _)) (fun i hi => absurd hi (Nat.not_lt_zero _)) (nb _) (nb _) (nb _)
theorem i64_0 : I64 0 := ⟨by decide, by decide⟩
theorem i64_2 : I64 2 := ⟨by decide, by decide⟩
theorem i64_4 : I64 4 := ⟨by decide, by decide⟩
theorem emp_le : (⟨#[]⟩ : ByteArray).size ≤ 1000000000 := by decide
theorem okT (s : ByteArray) (hs : s.size ≤ 1000000000) : HdOk (hdT s) := ⟨i64_4, i64_0, i64_0, i64_0, i64_0, i64_0, emp_le, hs, Nat.zero_le _⟩
theorem okN (ng : Bool) (s : ByteArray) (x : Int) (hs : s.size ≤ 1000000000) (hx : I64 x) : HdOk (hdN ng s x) := ⟨i64_2, hx, i64_0, i64_0, i64_0, i64_0, hs, emp_le, Nat.zero_le _⟩
theorem RText56_any (s : ByteArray) (w : World) : Calls Tryz.prog 52 #[.string s] w (LeafPost w (hdT s)) := by
  have HB : Hid (∀ X, Below w.heap.size w (w.alloc X)) := fun X => (Below.refl _ _).alloc (Nat.le_refl _) _
  go_enter Tryz.func52, Tryz.ntmps52
  go_wp2_with fail
  exact bodyPost_ret (v := aggV ⟨hdT s, .slice none 0 0, .slice none 0 0, .slice none 0 0⟩) (by simp [results, Tryz.results52, go_sem]) rfl ⟨rfl, HB.out _⟩
theorem RNum7_any (ng : Bool) (s : ByteArray) (x : Int) (w : World) : Calls Tryz.prog 72 #[.agg #[.bool ng, .string s, .int .i64 x]] w (LeafPost w (hdN ng s x)) := by
  have HB : Hid (∀ X Y, Below w.heap.size w ((w.alloc X).alloc Y)) := fun X Y => ((Below.refl _ w).alloc (Nat.le_refl _) _).alloc (by simp) _
  go_enter Tryz.func72, Tryz.ntmps72
  go_wp2_with fail
  exact bodyPost_ret (v := aggV ⟨hdN ng s x, .slice none 0 0, .slice none 0 0, .slice none 0 0⟩) (by simp [results, Tryz.results72, go_sem]) rfl ⟨rfl, HB.out _ _⟩
/-- The name of an operator. -/
def nameS (op : Int) : ByteArray := if op = 1 then ⟨#[114, 101, 112, 108, 97, 99, 101]⟩ else if op = 2 then ⟨#[105, 110, 115, 101, 114, 116]⟩ else if op = 3 then ⟨#[114, 101, 109, 111, 118, 101]⟩ else ⟨#[116, 101, 115, 116]⟩
theorem name_any (op : Int) (w : World) : Calls Tryz.prog 17 #[.int .i64 op] w fun e w' => e = .returned (.string (nameS op)) ∧ w = w' := by
  have HN : Hid (nameS op = if op = 1 then ⟨#[114, 101, 112, 108, 97, 99, 101]⟩ else if op = 2 then ⟨#[105, 110, 115, 101, 114, 116]⟩ else if op = 3 then ⟨#[114, 101, 109, 111, 118, 101]⟩ else ⟨#[116, 101, 115, 116]⟩) := rfl
  generalize nameS op = r at *
  by_cases h1 : op = 1
  · have HF := Lib.hid (HN.out.trans (if_pos h1))
    subst h1
    clear HN
    go_enter Tryz.func17, Tryz.ntmps17
    go_wp2_with fail
    go_ret
    exact ⟨by rw [HF.out]; rfl, rfl⟩
  by_cases h2 : op = 2
  · have HF := Lib.hid ((HN.out.trans (if_neg h1)).trans (if_pos h2))
    subst h2
    clear HN h1
    go_enter Tryz.func17, Tryz.ntmps17
    go_wp2_with fail
    go_ret
    exact ⟨by rw [HF.out]; rfl, rfl⟩
  by_cases h3 : op = 3
  · have HF := Lib.hid (((HN.out.trans (if_neg h1)).trans (if_neg h2)).trans (if_pos h3))
    subst h3
    clear HN h1 h2
    go_enter Tryz.func17, Tryz.ntmps17
    go_wp2_with fail
    go_ret
    exact ⟨by rw [HF.out]; rfl, rfl⟩
  have HF := Lib.hid (((HN.out.trans (if_neg h1)).trans (if_neg h2)).trans (if_neg h3))
  have q1 : (op == 1) = false := by rw [beq_eq_false_iff_ne]; exact h1
  have q2 : (op == 2) = false := by rw [beq_eq_false_iff_ne]; exact h2
  have q3 : (op == 3) = false := by rw [beq_eq_false_iff_ne]; exact h3
  clear HN h1 h2 h3
  go_enter Tryz.func17, Tryz.ntmps17
  go_wp2_with fail
  go_ret
  exact ⟨by rw [HF.out]; rfl, rfl⟩
end Go.Proofs.YtemiihkmpojpgaaGreatDoor

namespace Go.Proofs.YtemiihkmpojpgaaGreatDoor
open Go.RowKit
set_option maxHeartbeats 4000000
set_option maxRecDepth 100000

theorem two_allocs {w w1 : World} {x y : Obj} (hb : Below ((w.alloc x).alloc y).heap.size ((w.alloc x).alloc y) w1) : Below w.heap.size w w1 ∧ w1.heap[w.heap.size]? = some x ∧ w1.heap[w.heap.size + 1]? = some y ∧ w.heap.size + 2 ≤ w1.heap.size := by
  refine ⟨(((Below.refl _ _).alloc (Nat.le_refl _) _).alloc (by simp) _).trans (hb.mono (by simp; omega)), ?_, ?_, ?_⟩
  · exact (hb.block _ (by simp; omega)).trans ((heap_alloc_old _ _ (by simp)).trans (heap_alloc_new w _))
  · refine (hb.block _ (by simp)).trans ?_
    have := heap_alloc_new (w.alloc x) y
    simpa using this
  · have := hb.size
    simp at this
    omega
theorem Copy_any (v : V) (c : VC) (w : World) (hn : nodV v ≤ 1000000) (hd : depV v ≤ 65536) (hv : RdV w c v) :
    Calls Tryz.prog 24 #[aggV c] w (CpPost w v) := by
  obtain ⟨h, a1, a2, a3, n1, n2, n3, m1, m2, m3, rfl⟩ := hv.forms
  have HV := Lib.hid hv
  clear hv
  simp only [aggV]
  go_enter Tryz.func24, Tryz.ntmps24
  go_wp2_with fail
  refine (copied_any _ v ⟨h, .slice a1 n1 m1, .slice a2 n2 m2, .slice a3 n3 m3⟩ _ 65536 (Nat.le_refl _) hn (by omega) (by omega) (HV.out.stays (((Below.refl _ _).alloc (Nat.le_refl _) _).alloc (by simp) _))).mono ?_
  rintro e w1 ⟨c, rfl, hrd, hb⟩
  obtain ⟨⟨a0, a1, a2, a3, a4, a5, a6, a7, a8, a9, a10⟩, b1, b2, b3, o1, o2, o3, p1, p2, p3, rfl⟩ := hrd.forms
  obtain ⟨hbw, _, hy, hz⟩ := two_allocs hb
  obtain ⟨⟨y0, y1, y2, y3, y4, y5, y6, y7, y8, y9, y10, y11, y12⟩, yf⟩ := box13 hy
  have hrd2 : ∀ w9 : World, (∀ b, w.heap.size + 2 ≤ b → w9.heap[b]? = w1.heap[b]?) → w9.heap.size = w1.heap.size → RdI w9 (fun b => w.heap.size ≤ b) ⟨⟨a0, a1, a2, a3, a4, a5, a6, a7, a8, a9, a10⟩, .slice b1 o1 p1, .slice b2 o2 p2, .slice b3 o3 p3⟩ v :=
    fun w9 hk hz9 => (hrd.kept (fun b hb _ => hk b (by simp at hb; omega)) (by omega)).mono (fun b hb => by simp at hb; omega)
  have HRD := Lib.hid hrd2
  have HB := Lib.hid hbw
  clear hrd hb hy hrd2 hbw
  go_wp2_with fail
  refine bodyPost_ret (v := aggV ⟨⟨a0, a1, a2, a3, a4, a5, a6, a7, a8, a9, a10⟩, .slice b1 o1 p1, .slice b2 o2 p2, .slice b3 o3 p3⟩) (by simp [results, Tryz.results24, go_sem, y0, y1, y2, y3, y4, y5, y6, y7, y8, y9, y10, y11, y12]) rfl ⟨_, rfl, HRD.out _ (fun b hb => ?_) ?_, ?_⟩
  · repeat rw [heap_setCell_other _ _ b _ (by dsimp only; omega)]
  · simp
  · repeat refine Below.setCell ?_ (by dsimp only; omega) _
    exact HB.out

theorem roomV_bd : ∀ (n : Nat) (v : V) (left d : Int), SizeOf.sizeOf v ≤ n → 0 ≤ left → -1 ≤ roomV v left d ∧ roomV v left d ≤ left := by
  intro n
  induction n with
  | zero => intro v left d hn; exfalso; cases v; rw [V.mk.sizeOf_spec] at hn; omega
  | succ n ih =>
    intro v left d hn h0
    obtain ⟨h, l, f⟩ := v
    have hl : ∀ (m : Nat) (t : List V) (left d : Int), t.length = m → (∀ x ∈ t, SizeOf.sizeOf x ≤ n) → -1 ≤ left → -1 ≤ roomL t left d ∧ roomL t left d ≤ left := by
      intro m
      induction m with
      | zero => intro t left d ht _ h; obtain rfl := List.length_eq_zero_iff.1 ht; rw [roomL]; omega
      | succ m ihm =>
        intro t left d ht hs h
        obtain ⟨x, t, rfl⟩ : ∃ x u, t = x :: u := by cases t with | nil => simp at ht | cons x u => exact ⟨x, u, rfl⟩
        rw [roomL]
        split
        · omega
        · obtain ⟨h1, h2⟩ := ih x left d (hs x (by simp)) (by omega)
          obtain ⟨h3, h4⟩ := ihm t (roomV x left d) d (by simpa using ht) (fun y hy => hs y (by simp [hy])) h1
          omega
    have hf : ∀ (m : Nat) (t : List (ByteArray × V)) (left d : Int), t.length = m → (∀ x ∈ t, SizeOf.sizeOf x.2 ≤ n) → -1 ≤ left → -1 ≤ roomF t left d ∧ roomF t left d ≤ left := by
      intro m
      induction m with
      | zero => intro t left d ht _ h; obtain rfl := List.length_eq_zero_iff.1 ht; rw [roomF]; omega
      | succ m ihm =>
        intro t left d ht hs h
        obtain ⟨k, x, t, rfl⟩ : ∃ k x u, t = (k, x) :: u := by cases t with | nil => simp at ht | cons x u => exact ⟨x.1, x.2, u, rfl⟩
        rw [roomF]
        split
        · omega
        · obtain ⟨h1, h2⟩ := ih x left d (hs (k, x) (by simp)) (by omega)
          obtain ⟨h3, h4⟩ := ihm t (roomV x left d) d (by simpa using ht) (fun y hy => hs y (by simp [hy])) h1
          omega
    rw [roomV_mk]
    split
    · omega
    · obtain ⟨h1, h2⟩ := hl _ l (left - 1) (d - 1) rfl (fun x hx => by
        obtain ⟨i, hi, rfl⟩ := List.getElem_of_mem hx
        have := sz_l h l f i hi
        omega) (by omega)
      obtain ⟨h3, h4⟩ := hf _ f (roomL l (left - 1) (d - 1)) (d - 1) rfl (fun x hx => by
        obtain ⟨i, hi, rfl⟩ := List.getElem_of_mem hx
        have := sz_f h l f i hi
        omega) h1
      omega
theorem room_any : ∀ (n : Nat) (v : V) (c : VC) (w : World) (left depth : Int), SizeOf.sizeOf v ≤ n → 0 ≤ left → left ≤ 1000000 → 0 ≤ depth → depth ≤ 1000 → RdV w c v →
    Calls Tryz.prog 9 #[aggV c, .int .i64 left, .int .i64 depth] w fun e w' => e = .returned (.int .i64 (roomV v left depth)) ∧ Below w.heap.size w w' := by
  intro n
  induction n with
  | zero => intro v c w left depth hn; exfalso; cases v; rw [V.mk.sizeOf_spec] at hn; omega
  | succ n ih =>
    intro v c w left depth hn h0 h1 hd0 hd1 hv
    have IH := Lib.hid ih; clear ih
    cases hv with
    | mk h l f bv lv fv lc fc ok hB hl hL hf hK hF _ _ _ =>
    obtain ⟨ba, bcap, rfl, hb1, ⟨hb2, _⟩, hb3, hb4⟩ := hB
    obtain ⟨la, lcap, rfl, hl1, ⟨hl2, _⟩, hl3, hl4⟩ := hl
    obtain ⟨fa, fcap, rfl, hf1, ⟨hf2, _⟩, hf3, hf4⟩ := hf
    have HL := Lib.hid hl4; clear hl4
    have HFc := Lib.hid hf4; clear hf4
    have HLi := Lib.hid hL; clear hL
    have HFi := Lib.hid hF; clear hF
    clear hb4 hb3 hb2 hb1 hl3 hf3 hK ok
    obtain ⟨a0, a1, a2, a3, a4, a5, a6, a7, a8, a9, a10⟩ := h
    simp only [aggV]
    have HR := Lib.hid (roomV_mk ⟨a0, a1, a2, a3, a4, a5, a6, a7, a8, a9, a10⟩ l f left depth)
    by_cases hc1 : depth ≤ 0
    · have HF : Hid (roomV (.mk ⟨a0, a1, a2, a3, a4, a5, a6, a7, a8, a9, a10⟩ l f) left depth = -1) := by unfold Hid; rw [HR.out, if_pos (by omega)]
      clear HR
      generalize roomV (.mk ⟨a0, a1, a2, a3, a4, a5, a6, a7, a8, a9, a10⟩ l f) left depth = r at *
      go_enter Tryz.func9, Tryz.ntmps9
      go_wp2_with fail
      go_ret
      exact ⟨by rw [HF.out]; rfl, (Below.refl _ _).alloc (Nat.le_refl _) _⟩
    by_cases hc2 : left - 1 < (l.length : Int)
    · have HF : Hid (roomV (.mk ⟨a0, a1, a2, a3, a4, a5, a6, a7, a8, a9, a10⟩ l f) left depth = -1) := by unfold Hid; rw [HR.out, if_pos (by omega)]
      clear HR
      generalize roomV (.mk ⟨a0, a1, a2, a3, a4, a5, a6, a7, a8, a9, a10⟩ l f) left depth = r at *
      go_enter Tryz.func9, Tryz.ntmps9
      go_wp2_with fail
      go_ret
      exact ⟨by rw [HF.out]; rfl, (Below.refl _ _).alloc (Nat.le_refl _) _⟩
    by_cases hc3 : left - 1 < (f.length : Int)
    · have HF : Hid (roomV (.mk ⟨a0, a1, a2, a3, a4, a5, a6, a7, a8, a9, a10⟩ l f) left depth = -1) := by unfold Hid; rw [HR.out, if_pos (by omega)]
      clear HR
      generalize roomV (.mk ⟨a0, a1, a2, a3, a4, a5, a6, a7, a8, a9, a10⟩ l f) left depth = r at *
      go_enter Tryz.func9, Tryz.ntmps9
      go_wp2_with fail
      go_ret
      exact ⟨by rw [HF.out]; rfl, (Below.refl _ _).alloc (Nat.le_refl _) _⟩
    have HF : Hid (roomV (.mk ⟨a0, a1, a2, a3, a4, a5, a6, a7, a8, a9, a10⟩ l f) left depth = roomF f (roomL l (left - 1) (depth - 1)) (depth - 1)) := by unfold Hid; rw [HR.out, if_neg (by omega)]
    clear HR
    have HSL := Lib.hid (fun i hi => sz_l ⟨a0, a1, a2, a3, a4, a5, a6, a7, a8, a9, a10⟩ l f i hi)
    have HSF := Lib.hid (fun i hi => sz_f ⟨a0, a1, a2, a3, a4, a5, a6, a7, a8, a9, a10⟩ l f i hi)
    have HN := Lib.hid hn; clear hn
    generalize roomV (.mk ⟨a0, a1, a2, a3, a4, a5, a6, a7, a8, a9, a10⟩ l f) left depth = r at *
    go_enter Tryz.func9, Tryz.ntmps9
    go_wp2_with fail
    have hx : (w.alloc (.cells #[.int .i64 a0, .bool a1, .bool a2, .string a3, .int .i64 a4, .int .i64 a5, .int .i64 a6, .int .i64 a7, .int .i64 a8, .string a9, .slice ba a10.length bcap, .slice la l.length lcap, .slice fa f.length fcap] 30)).heap[w.heap.size]? = some (.cells #[.int .i64 a0, .bool a1, .bool a2, .string a3, .int .i64 a4, .int .i64 a5, .int .i64 a6, .int .i64 a7, .int .i64 a8, .string a9, .slice ba a10.length bcap, .slice la l.length lcap, .slice fa f.length fcap] 30 (0, 0)) := heap_alloc_new w _
    have hb0 : Below w.heap.size w (w.alloc (.cells #[.int .i64 a0, .bool a1, .bool a2, .string a3, .int .i64 a4, .int .i64 a5, .int .i64 a6, .int .i64 a7, .int .i64 a8, .string a9, .slice ba a10.length bcap, .slice la l.length lcap, .slice fa f.length fcap] 30)) := (Below.refl _ _).alloc (Nat.le_refl _) _
    have hz0 : w.heap.size < (w.alloc (.cells #[.int .i64 a0, .bool a1, .bool a2, .string a3, .int .i64 a4, .int .i64 a5, .int .i64 a6, .int .i64 a7, .int .i64 a8, .string a9, .slice ba a10.length bcap, .slice la l.length lcap, .slice fa f.length fcap] 30)).heap.size := by simp
    have HX := Lib.hid hx
    have HB0 := Lib.hid hb0
    have HZ0 := Lib.hid hz0
    clear hx hb0 hz0
    generalize w.alloc (.cells #[.int .i64 a0, .bool a1, .bool a2, .string a3, .int .i64 a4, .int .i64 a5, .int .i64 a6, .int .i64 a7, .int .i64 a8, .string a9, .slice ba a10.length bcap, .slice la l.length lcap, .slice fa f.length fcap] 30) = w1 at *
    obtain ⟨RL, hRL⟩ : ∃ RL : Int, RL = roomL l (left - 1) (depth - 1) := ⟨_, rfl⟩
    have HRL := Lib.hid hRL
    rw [← hRL] at HF
    clear hRL
    go_loopw [1, 7] (fun cv iv wr => ∃ (k : Nat) (cur : Int), k ≤ l.length ∧ iv = .int .i64 k ∧ cv = .int .i64 cur ∧ -1 ≤ cur ∧ cur ≤ left - 1 ∧ Hid (RL = roomL (l.drop k) cur (depth - 1)) ∧ Below w1.heap.size w1 wr) (fun _ iv _ => l.length - (intOf iv).toNat)
    case atStart => exact ⟨0, left - 1, by omega, rfl, rfl, by omega, by omega, by unfold Hid; rw [HRL.out, List.drop_zero], Below.refl _ _⟩
    case round =>
      obtain ⟨k, cur, hk, rfl, rfl, hcl, hcu, HC, hbw⟩ := hrel
      obtain ⟨⟨x0, x1, x2, x3, x4, x5, x6, x7, x8, x9, x10, x11, x12⟩, xf⟩ := box13 ((hbw.block w.heap.size HZ0.out).trans HX.out)
      clear x0 x1 x2 x3 x4 x5 x6 x7 x8 x9 x10 xf
      obtain ⟨q, hq⟩ : ∃ q : Bool, q = decide (k < l.length ∧ 0 ≤ cur) := ⟨_, rfl⟩
      have HQ := Lib.hid hq
      clear hq
      go_upto_region 5 with fail
      go_cut [35] (fun v wx => v = .bool q ∧ wr = wx)
      case first =>
        by_cases hlt : k < l.length
        case neg =>
          obtain rfl : q = false := by rw [HQ.out]; exact decide_eq_false (fun h => hlt h.1)
          go_wp2_with fail
          go_meet
          exact ⟨rfl, rfl⟩
        case pos =>
          by_cases hc : 0 ≤ cur
          case pos =>
            obtain rfl : q = true := by rw [HQ.out]; exact decide_eq_true ⟨hlt, hc⟩
            go_wp2_with fail
            go_meet
            exact ⟨rfl, rfl⟩
          case neg =>
            obtain rfl : q = false := by rw [HQ.out]; exact decide_eq_false (fun h => hc h.2)
            go_wp2_with fail
            go_meet
            exact ⟨rfl, rfl⟩
      case rest =>
      obtain ⟨rfl, rfl⟩ := hcut
      cases q with
      | true =>
        obtain ⟨hlt, hc⟩ := of_decide_eq_true HQ.out.symm
        clear HQ
        obtain ⟨g, o, rfl, hg, hat⟩ := HL.out (by omega)
        have hbw0 : Below w.heap.size w wr := HB0.out.trans (hbw.mono (by have := HZ0.out; omega))
        have hrd := (HLi.out k hlt).stays hbw0
        have hsz := HSL.out k hlt
        have hnn := HN.out
        have hc13 := fun j hj => (hbw0.cell hg).trans (hat k hlt j hj)
        have HIH := Lib.hid (IH.out l[k] (lc k) wr cur (depth - 1) (by omega) (by omega) (by omega) (by omega) (by omega) hrd)
        have HS : Hid (RL = roomL (l.drop (k + 1)) (roomV l[k] cur (depth - 1)) (depth - 1)) := by unfold Hid; rw [HC.out, roomL_drop l k hlt _ _ hc]
        have hbd := roomV_bd _ l[k] cur (depth - 1) (Nat.le_refl _) hc
        have hfm := hrd.forms
        clear hat hrd hsz hnn HC
        generalize roomV l[k] cur (depth - 1) = r2 at *
        generalize lc k = c at *
        obtain ⟨⟨p0, p1, p2, p3, p4, p5, p6, p7, p8, p9, p10⟩, q1, q2, q3, n1, n2, n3, m1, m2, m3, rfl⟩ := hfm
        obtain ⟨c0, c1, c2, c3, c4, c5, c6, c7, c8, c9, c10, c11, c12⟩ := cells13 hc13
        simp only at c0 c1 c2 c3 c4 c5 c6 c7 c8 c9 c10 c11 c12
        clear hc13
        obtain ⟨hb1, hb2⟩ := hbd
        go_wp2_with fail
        refine HIH.out.mono ?_
        rintro e w4 ⟨rfl, hb5⟩
        have hb6 := hbw.trans (hb5.mono hbw.size)
        go_wp2_with fail
        exact ⟨⟨k + 1, r2, by omega, rfl, rfl, hb1, by omega, HS, hb6⟩, by simp [intOf]; omega⟩
      | false =>
        have HC2 : Hid (RL = cur) := by
          unfold Hid
          rw [HC.out]
          have := of_decide_eq_false HQ.out.symm
          by_cases hlt : k < l.length
          · exact roomL_neg _ _ _ (by omega)
          · rw [List.drop_of_length_le (by omega), roomL]
        clear HC HQ
        go_wp2_with fail
        have HBW := Lib.hid hbw
        have HX2 := Lib.hid ((hbw.block w.heap.size HZ0.out).trans HX.out)
        have HZ2 := Lib.hid (Nat.lt_of_lt_of_le HZ0.out hbw.size)
        have HB2 := Lib.hid (HB0.out.trans (hbw.mono (Nat.le_of_lt HZ0.out)))
        clear hbw HX HZ0 HB0 x11 x12 HL HLi HSL
        obtain ⟨wo, rfl⟩ : ∃ wo : World, wo = wr := ⟨_, rfl⟩
        go_loopw [1, 8] (fun cv iv wr => ∃ (k : Nat) (cu : Int), k ≤ f.length ∧ iv = .int .i64 k ∧ cv = .int .i64 cu ∧ -1 ≤ cu ∧ cu ≤ left - 1 ∧ Hid (r = roomF (f.drop k) cu (depth - 1)) ∧ Below wo.heap.size wo wr) (fun _ iv _ => f.length - (intOf iv).toNat)
        case atStart => exact ⟨0, cur, by omega, rfl, rfl, by omega, by omega, by unfold Hid; rw [HF.out, HC2.out, List.drop_zero], Below.refl _ _⟩
        case round =>
          clear HF HC2
          obtain ⟨wq, rfl⟩ : ∃ wq : World, wq = wr := ⟨_, rfl⟩
          obtain ⟨k, cu, hk, rfl, rfl, hcl, hcu, HC, hbw⟩ := hrel
          obtain ⟨⟨x0, x1, x2, x3, x4, x5, x6, x7, x8, x9, x10, x11, x12⟩, xf⟩ := box13 ((hbw.block w.heap.size HZ2.out).trans HX2.out)
          clear x0 x1 x2 x3 x4 x5 x6 x7 x8 x9 x10 xf
          obtain ⟨q, hq⟩ : ∃ q : Bool, q = decide (k < f.length ∧ 0 ≤ cu) := ⟨_, rfl⟩
          have HQ := Lib.hid hq
          clear hq
          go_upto_region 9 with fail
          go_cut [55] (fun v wx => v = .bool q ∧ wq = wx)
          case first =>
            by_cases hlt : k < f.length
            case neg =>
              obtain rfl : q = false := by rw [HQ.out]; exact decide_eq_false (fun h => hlt h.1)
              go_wp2_with fail
              go_meet
              exact ⟨rfl, rfl⟩
            case pos =>
              by_cases hc : 0 ≤ cu
              case pos =>
                obtain rfl : q = true := by rw [HQ.out]; exact decide_eq_true ⟨hlt, hc⟩
                go_wp2_with fail
                go_meet
                exact ⟨rfl, rfl⟩
              case neg =>
                obtain rfl : q = false := by rw [HQ.out]; exact decide_eq_false (fun h => hc h.2)
                go_wp2_with fail
                go_meet
                exact ⟨rfl, rfl⟩
          case rest =>
          obtain ⟨rfl, rfl⟩ := hcut
          cases q with
          | true =>
            obtain ⟨hlt, hc⟩ := of_decide_eq_true HQ.out.symm
            clear HQ
            obtain ⟨g, o, rfl, hg, hat⟩ := HFc.out (by omega)
            have hbw0 : Below w.heap.size w wq := HB2.out.trans (hbw.mono (by have := HZ2.out; omega))
            have hrd := (HFi.out k hlt).stays hbw0
            have hsz := HSF.out k hlt
            have hnn := HN.out
            have hc13 : ∀ j, j < 13 → wq.cell? ⟨g, o + k * 14 + 1 + j, none⟩ = (fc k).cells[j]? := fun j hj => by have := (hbw0.cell hg).trans (hat k hlt (j + 1) (by omega)); rw [show o + k * 14 + 1 + j = o + k * 14 + (j + 1) by omega]; exact this
            have HIH := Lib.hid (IH.out f[k].2 (fc k) wq cu (depth - 1) (by omega) (by omega) (by omega) (by omega) (by omega) hrd)
            have HS : Hid (r = roomF (f.drop (k + 1)) (roomV f[k].2 cu (depth - 1)) (depth - 1)) := by unfold Hid; rw [HC.out, roomF_drop f k hlt _ _ hc]
            have hbd := roomV_bd _ f[k].2 cu (depth - 1) (Nat.le_refl _) hc
            have hfm := hrd.forms
            clear hat hrd hsz hnn HC
            generalize roomV f[k].2 cu (depth - 1) = r2 at *
            generalize fc k = c at *
            obtain ⟨⟨p0, p1, p2, p3, p4, p5, p6, p7, p8, p9, p10⟩, q1, q2, q3, n1, n2, n3, m1, m2, m3, rfl⟩ := hfm
            obtain ⟨c0, c1, c2, c3, c4, c5, c6, c7, c8, c9, c10, c11, c12⟩ := cells13 hc13
            simp only at c0 c1 c2 c3 c4 c5 c6 c7 c8 c9 c10 c11 c12
            clear hc13
            obtain ⟨hb1, hb2⟩ := hbd
            go_wp2_with fail
            refine HIH.out.mono ?_
            rintro e w4 ⟨rfl, hb5⟩
            have hb6 := hbw.trans (hb5.mono hbw.size)
            go_wp2_with fail
            exact ⟨⟨k + 1, r2, by omega, rfl, rfl, hb1, by omega, HS, hb6⟩, by simp [intOf]; omega⟩
          | false =>
            have HC2 : Hid (r = cu) := by
              unfold Hid
              rw [HC.out]
              have := of_decide_eq_false HQ.out.symm
              by_cases hlt : k < f.length
              · exact roomF_neg _ _ _ (by omega)
              · rw [List.drop_of_length_le (by omega), roomF]
            have hbf := HB2.out.trans (hbw.mono (Nat.le_of_lt HZ2.out))
            clear HC HQ
            go_wp2_with fail
            go_ret
            exact ⟨by rw [HC2.out]; rfl, hbf⟩
theorem Small_any (v : V) (c : VC) (w : World) (left depth : Int) (h0 : 0 ≤ left) (h1 : left ≤ 1000000) (hd0 : 0 ≤ depth) (hd1 : depth ≤ 1000) (hv : RdV w c v) :
    Calls Tryz.prog 4 #[aggV c, .int .i64 left, .int .i64 depth] w fun e w' => e = .returned (.bool (decide (0 ≤ roomV v left depth))) ∧ Below w.heap.size w w' := by
  obtain ⟨h, a1, a2, a3, n1, n2, n3, m1, m2, m3, rfl⟩ := hv.forms
  have HV := Lib.hid hv
  clear hv
  simp only [aggV]
  go_enter Tryz.func4, Tryz.ntmps4
  go_wp2_with fail
  refine (room_any _ v ⟨h, .slice a1 n1 m1, .slice a2 n2 m2, .slice a3 n3 m3⟩ _ left depth (Nat.le_refl _) h0 h1 hd0 hd1 (HV.out.stays ((Below.refl _ _).alloc (Nat.le_refl _) _))).mono ?_
  rintro e w1 ⟨rfl, hb⟩
  have hb2 : Below w.heap.size w w1 := ((Below.refl _ _).alloc (Nat.le_refl _) _).trans (hb.mono (by simp))
  go_wp2_with fail
  go_ret
  exact ⟨rfl, hb2⟩
end Go.Proofs.YtemiihkmpojpgaaGreatDoor
