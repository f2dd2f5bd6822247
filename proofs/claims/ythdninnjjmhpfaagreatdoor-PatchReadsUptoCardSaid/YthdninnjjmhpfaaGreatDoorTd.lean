/- value.copied, value.Copy, walked. Conditions: at most 10^6 values in all. -/
import Derived.Test.YthdninnjjmhpfaaGreatDoorTc
import Derived.IntWalk
import Derived.Deep.RegionHeld3
import Derived.Deep.AppendLies
namespace Go.Proofs.YthdninnjjmhpfaaGreatDoor
open Go.RowKit
set_option maxHeartbeats 4000000
set_option maxRecDepth 100000

/-- What a copy hands back. -/
def CpPost (w : World) (v : V) (e : Ending) (w' : World) : Prop := ∃ c, e = .returned (aggV c) ∧ RdI w' (fun b => w.heap.size ≤ b) c v ∧ Below w.heap.size w w'
theorem box13 {w : World} {g : Nat} {t : TypeId} {a0 a1 a2 a3 a4 a5 a6 a7 a8 a9 a10 a11 a12 : Value} (h : w.heap[g]? = some (.cells #[a0, a1, a2, a3, a4, a5, a6, a7, a8, a9, a10, a11, a12] t (0, 0))) :
    (w.cell? ⟨g, 0, none⟩ = some a0 ∧ w.cell? ⟨g, 1, none⟩ = some a1 ∧ w.cell? ⟨g, 2, none⟩ = some a2 ∧ w.cell? ⟨g, 3, none⟩ = some a3 ∧ w.cell? ⟨g, 4, none⟩ = some a4 ∧ w.cell? ⟨g, 5, none⟩ = some a5 ∧ w.cell? ⟨g, 6, none⟩ = some a6 ∧
      w.cell? ⟨g, 7, none⟩ = some a7 ∧ w.cell? ⟨g, 8, none⟩ = some a8 ∧ w.cell? ⟨g, 9, none⟩ = some a9 ∧ w.cell? ⟨g, 10, none⟩ = some a10 ∧ w.cell? ⟨g, 11, none⟩ = some a11 ∧ w.cell? ⟨g, 12, none⟩ = some a12) ∧ (∀ j, w.frozen? ⟨g, j, none⟩ = false) := by
  refine ⟨⟨?_, ?_, ?_, ?_, ?_, ?_, ?_, ?_, ?_, ?_, ?_, ?_, ?_⟩, fun j => ?_⟩
  all_goals first
    | exact (cell_of_row w g _ _ t (0, 0) h).trans rfl
    | (simp [World.frozen?, h])
theorem elemV : Elem Tryz.prog 27 30 13 := elem_of (z := .agg #[.int .i64 0, .bool false, .bool false, .string ⟨#[]⟩, .int .i64 0, .int .i64 0, .int .i64 0, .int .i64 0, .int .i64 0, .string ⟨#[]⟩, .slice none 0 0, .slice none 0 0, .slice none 0 0]) (bytes := 168) Tryz.underlying27 (by kernel_rfl) (by decide) (by decide) rfl
theorem elemF : Elem Tryz.prog 28 67 14 := elem_of (z := .agg #[.string ⟨#[]⟩, .int .i64 0, .bool false, .bool false, .string ⟨#[]⟩, .int .i64 0, .int .i64 0, .int .i64 0, .int .i64 0, .int .i64 0, .string ⟨#[]⟩, .slice none 0 0, .slice none 0 0, .slice none 0 0]) (bytes := 184) Tryz.underlying28 (by kernel_rfl) (by decide) (by decide) rfl
theorem RdI.forms {w : World} {S : Nat → Prop} {c : VC} {v : V} (h : RdI w S c v) : ∃ (h : Hd) (a1 a2 a3 : Option Addr) (n1 n2 n3 m1 m2 m3 : Nat), c = ⟨h, .slice a1 n1 m1, .slice a2 n2 m2, .slice a3 n3 m3⟩ := by
  cases h with
  | mk h l f bv lv fv lc fc ok hb hl hL hf hK hF sb sl sf =>
    obtain ⟨a1, m1, rfl, _⟩ := hb
    obtain ⟨a2, m2, rfl, _⟩ := hl
    obtain ⟨a3, m3, rfl, _⟩ := hf
    exact ⟨h, a1, a2, a3, _, _, _, m1, m2, m3, rfl⟩
theorem copied_any : ∀ (n : Nat) (v : V) (c : VC) (w : World) (left : Int), SizeOf.sizeOf v ≤ n → nodV v ≤ 1000000 → (depV v : Int) ≤ left → left ≤ 65536 → RdV w c v →
    Calls Tryz.prog 57 #[aggV c, .int .i64 left] w (CpPost w v) := by
  intro n
  induction n with
  | zero => intro v c w left hn; exfalso; cases v; rw [V.mk.sizeOf_spec] at hn; omega
  | succ n ih =>
    intro v c w left hn hnod hdep hleft hv
    cases hv with
    | mk h l f bv lv fv lc fc ok hB hl hL hf hK hF _ _ _ =>
    have IH := Lib.hid ih; clear ih
    rw [nodV_mk] at hnod
    rw [depV_mk] at hdep
    obtain ⟨la, lcap, rfl, hl1, ⟨hl2, _⟩, hl3, hl4⟩ := hl
    obtain ⟨fa, fcap, rfl, hf1, ⟨hf2, _⟩, hf3, hf4⟩ := hf
    have HL := Lib.hid hl4; clear hl4
    have HFc := Lib.hid hf4; clear hf4
    have HLi := Lib.hid hL; clear hL
    have HFi := Lib.hid hF; clear hF
    have HK := Lib.hid hK; clear hK
    have HOK := Lib.hid ok; clear ok
    have HB := Lib.hid hB; clear hB
    have HNL := Lib.hid (nodL_len l)
    have HNF := Lib.hid (nodF_len f)
    obtain ⟨a0, a1, a2, a3, a4, a5, a6, a7, a8, a9, a10⟩ := h
    dsimp only at HB
    simp only [aggV]
    have h0 : ¬ (left < 1) := by omega
    have hb2 : ∀ x y, Below w.heap.size w ((w.alloc x).alloc y) := fun x y => ((Below.refl _ w).alloc (Nat.le_refl _) _).alloc (by simp) _
    have HB2 := Lib.hid hb2; clear hb2
    go_enter Tryz.func57, Tryz.ntmps57
    go_wp2_with fail
    refine (Clone_any bv a10 _ (HB.out.below (HB2.out _ _))).mono ?_
    rintro e w2 ⟨bv', rfl, hbv, hbk, hb⟩
    have hx : w2.heap[w.heap.size]? = some (.cells #[.int .i64 a0, .bool a1, .bool a2, .string a3, .int .i64 a4, .int .i64 a5, .int .i64 a6, .int .i64 a7, .int .i64 a8, .string a9, bv, .slice la l.length lcap, .slice fa f.length fcap] 30 (0, 0)) :=
      (hb.block _ (by simp only [World.size_alloc]; omega)).trans ((heap_alloc_old _ _ (by simp)).trans (heap_alloc_new w _))
    have hy : w2.heap[w.heap.size + 1]? = some (.cells #[.int .i64 0, .bool false, .bool false, .string ⟨#[]⟩, .int .i64 0, .int .i64 0, .int .i64 0, .int .i64 0, .int .i64 0, .string ⟨#[]⟩, .slice none 0 0, .slice none 0 0, .slice none 0 0] 30 (0, 0)) :=
      (hb.block _ (by simp only [World.size_alloc]; omega)).trans (by have := heap_alloc_new (w.alloc (.cells #[.int .i64 a0, .bool a1, .bool a2, .string a3, .int .i64 a4, .int .i64 a5, .int .i64 a6, .int .i64 a7, .int .i64 a8, .string a9, bv, .slice la l.length lcap, .slice fa f.length fcap] 30)) (.cells #[.int .i64 0, .bool false, .bool false, .string ⟨#[]⟩, .int .i64 0, .int .i64 0, .int .i64 0, .int .i64 0, .int .i64 0, .string ⟨#[]⟩, .slice none 0 0, .slice none 0 0, .slice none 0 0] 30); simpa using this)
    obtain ⟨⟨x0, x1, x2, x3, x4, x5, x6, x7, x8, x9, x10, x11, x12⟩, xf⟩ := box13 hx
    have hb3 : Below w.heap.size w w2 := (HB2.out _ _).trans (hb.mono (by simp only [World.size_alloc]; omega))
    have hz2 := hb.size
    simp only [World.size_alloc] at hz2
    obtain ⟨ba, bcap, rfl, hbv1⟩ := hbv
    have hx3 : (w2.setCell ⟨w.heap.size, 10, none⟩ (.slice ba a10.length bcap)).heap[w.heap.size]? = some (.cells #[.int .i64 a0, .bool a1, .bool a2, .string a3, .int .i64 a4, .int .i64 a5, .int .i64 a6, .int .i64 a7, .int .i64 a8, .string a9, .slice ba a10.length bcap, .slice la l.length lcap, .slice fa f.length fcap] 30 (0, 0)) := by
      rw [heap_setCell_same w2 w.heap.size 10 _ _ _ hx]; rfl
    have hy3 : (w2.setCell ⟨w.heap.size, 10, none⟩ (.slice ba a10.length bcap)).heap[w.heap.size + 1]? = some (.cells #[.int .i64 0, .bool false, .bool false, .string ⟨#[]⟩, .int .i64 0, .int .i64 0, .int .i64 0, .int .i64 0, .int .i64 0, .string ⟨#[]⟩, .slice none 0 0, .slice none 0 0, .slice none 0 0] 30 (0, 0)) := by
      rw [heap_setCell_other w2 ⟨w.heap.size, 10, none⟩ (w.heap.size + 1) _ (by simp only []; omega)]; exact hy
    have hb4 : Below w.heap.size w (w2.setCell ⟨w.heap.size, 10, none⟩ (.slice ba a10.length bcap)) := hb3.setCell (p := ⟨w.heap.size, 10, none⟩) (Nat.le_refl _) _
    have hbk : BlkIn (fun b => w.heap.size + 2 ≤ b) (.slice ba a10.length bcap) := hbk.mono (fun b hb => by simp only [World.size_alloc] at hb; omega)
    have hbv : RdB (w2.setCell ⟨w.heap.size, 10, none⟩ (.slice ba a10.length bcap)) (.slice ba a10.length bcap) a10 := Sl.kept (w := w2) ⟨ba, bcap, rfl, hbv1⟩ hbk (fun b hb _ => heap_setCell_other w2 _ b _ (by dsimp only; omega)) (by simp)
    have hz3 : w.heap.size + 2 ≤ (w2.setCell ⟨w.heap.size, 10, none⟩ (.slice ba a10.length bcap)).heap.size := by rw [World.size_setCell]; omega
    have HX3 := Lib.hid hx3
    have HY3 := Lib.hid hy3
    have HB4 := Lib.hid hb4
    have HZ3 := Lib.hid hz3
    have HBK := Lib.hid hbk
    have HBV := Lib.hid hbv
    clear hx hy hb hbk hbv hbv1 hx3 hy3 hb4 hz3 hb3 HB2 HB
    go_wp2_with fail
    generalize (w2.setCell ⟨w.heap.size, 10, none⟩ (.slice ba a10.length bcap)) = w3 at *
    clear x0 x1 x2 x3 x4 x5 x6 x7 x8 x9 x10 x11 x12 xf hz2
    go_loopw [5, 7, 23] (fun o _ i wr => ∃ k : Nat, k ≤ l.length ∧ i = .int .i64 k ∧ OwnT 30 13 VC.cells RdI wr w3.heap.size o (l.take k) ∧ Below w3.heap.size w3 wr) (fun _ _ i _ => l.length - (intOf i).toNat)
    case atStart => exact ⟨0, by omega, rfl, by rw [List.take_zero]; exact OwnT.nil, Below.refl _ _⟩
    case round =>
      obtain ⟨k, hk, rfl, hown, hbw⟩ := hrel
      by_cases hlt : k < l.length
      case pos =>
        obtain ⟨g, o, rfl, hg, hat⟩ := HL.out (by omega)
        have hbw0 : Below w.heap.size w wr := HB4.out.trans (hbw.mono (by have := HZ3.out; omega))
        have hrd := (HLi.out k hlt).stays hbw0
        have hsz := sz_l ⟨a0, a1, a2, a3, a4, a5, a6, a7, a8, a9, a10⟩ l f k hlt
        have hn1 := nodL_at l k hlt
        have hd1 := depL_at l k hlt
        have hc13 := fun j hj => (hbw0.cell hg).trans (hat k hlt j hj)
        have HS := Lib.hid (List.take_succ_eq_append_getElem hlt)
        have HIH := Lib.hid (fun w' (hb' : Below wr.heap.size wr w') => IH.out l[k] (lc k) w' (left - 1) (by omega) (by omega) (by omega) (by omega) (hrd.stays hb'))
        have hfm := hrd.forms
        clear hat hrd hsz hn1 hd1
        generalize l[k] = x at *
        generalize lc k = c at *
        obtain ⟨⟨p0, p1, p2, p3, p4, p5, p6, p7, p8, p9, p10⟩, q1, q2, q3, n1, n2, n3, m1, m2, m3, rfl⟩ := hfm
        obtain ⟨c0, c1, c2, c3, c4, c5, c6, c7, c8, c9, c10, c11, c12⟩ := cells13 hc13
        simp only at c0 c1 c2 c3 c4 c5 c6 c7 c8 c9 c10 c11 c12
        clear hc13
        have hz := hbw.size
        go_wp2_with fail
        refine (HIH.out _ ((Below.refl _ _).alloc (Nat.le_refl _) _)).mono ?_
        rintro e w4 ⟨c', rfl, hrd4, hb5⟩
        simp only [World.size_alloc] at hrd4 hb5
        have hb6 : Below wr.heap.size wr w4 := ((Below.refl _ _).alloc (Nat.le_refl _) _).trans (hb5.mono (Nat.le_succ _))
        have hz6 := hb6.size
        have hob := Lib.hid hown.blk
        obtain ⟨cs, hcl, hown4, hrds⟩ := hown.below stbV hb6
        have hrd5 : RdI w4 (fun b => w3.heap.size ≤ b ∧ some b ≠ u5.ownBlock) c' x := by
          refine hrd4.mono (fun b hb => ⟨by omega, fun hh => ?_⟩)
          have := hob.out b hh.symm
          omega
        have HRS := Lib.hid hrds
        have HR5 := Lib.hid hrd5
        have HTL := Lib.hid (show (l.take k).length = k by rw [List.length_take]; omega)
        have hkl : (l.take k).length < 100000000000 := by rw [HTL.out]; have := HNL.out; omega
        clear hown hrds hrd5 hrd4 hb5 hob
        go_wp2_with (at_builtin; refine wp_push2 elemV rfl _ _ rfl hown4 c'.cells rfl (by intro u hu; obtain ⟨h, b1, b2, b3, m1, m2, m3, o1, o2, o3, rfl⟩ := HR5.out.forms; simp [VC.cells] at hu; rcases hu with rfl | rfl | rfl | rfl | rfl | rfl | rfl | rfl | rfl | rfl | rfl | rfl | rfl <;> rfl) rfl rfl hkl (by omega) ?_; intro v' w5 hown5 hg5 hb5 hf5)
        exact ⟨⟨k + 1, by omega, rfl, by rw [HS.out]; exact OwnT.push stbV hcl HRS.out HR5.out hown5 hg5 hf5, (hbw.trans (hb6.mono hz)).trans hb5⟩, by simp [intOf]; omega⟩
      case neg =>
        rw [List.take_of_length_le (by omega)] at hown
        have HO := Lib.hid (hown.sl stbV cells_len ⟨⟨0, false, false, ⟨#[]⟩, 0, 0, 0, 0, 0, ⟨#[]⟩, []⟩, .slice none 0 0, .slice none 0 0, .slice none 0 0⟩ (by have := HNL.out; omega))
        have hbw0 : Below w.heap.size w wr := HB4.out.trans (hbw.mono (by have := HZ3.out; omega))
        have hz := hbw.size
        have HX4 := Lib.hid ((hbw.block w.heap.size (by have := HZ3.out; omega)).trans HX3.out)
        have HY4 := Lib.hid ((hbw.block (w.heap.size + 1) (by have := HZ3.out; omega)).trans HY3.out)
        have HBV4 := Lib.hid (RdB.below HBV.out hbw)
        have HB5 := Lib.hid hbw0
        have HZ4 : Hid (w.heap.size + 2 ≤ wr.heap.size) := by unfold Hid; have := HZ3.out; omega
        obtain ⟨⟨x0, x1, x2, x3, x4, x5, x6, x7, x8, x9, x10, x11, x12⟩, xf⟩ := box13 HX4.out
        clear hown HB4 HX3 HY3 HBV HL HLi hbw hbw0 hz
        go_wp2_with fail
        obtain ⟨wo, rfl⟩ : ∃ wo : World, wo = wr := ⟨_, rfl⟩
        clear x0 x1 x2 x3 x4 x5 x6 x7 x8 x9 x10 x11 x12 xf hlt hk
        go_loopw [8, 10, 38] (fun ov _ i wq => ∃ k : Nat, k ≤ f.length ∧ i = .int .i64 k ∧ OwnT 67 14 fcells RdF wq wo.heap.size ov (f.take k) ∧ Below wo.heap.size wo wq) (fun _ _ i _ => f.length - (intOf i).toNat)
        case atStart => exact ⟨0, by omega, rfl, by rw [List.take_zero]; exact OwnT.nil, Below.refl _ _⟩
        case round =>
          obtain ⟨wq, rfl⟩ : ∃ wq : World, wq = wr := ⟨_, rfl⟩
          obtain ⟨k, hk, rfl, hown, hbw⟩ := hrel
          by_cases hlt : k < f.length
          case pos =>
            obtain ⟨g, o, rfl, hg, hat⟩ := HFc.out (by omega)
            have hbw0 : Below w.heap.size w wq := HB5.out.trans (hbw.mono (by have := HZ4.out; omega))
            have hrd := (HFi.out k hlt).stays hbw0
            have hsz := sz_f ⟨a0, a1, a2, a3, a4, a5, a6, a7, a8, a9, a10⟩ l f k hlt
            have hn1 := nodF_at f k hlt
            have hd1 := depF_at f k hlt
            have hc14 := fun j hj => (hbw0.cell hg).trans (hat k hlt j hj)
            have ek : (f.getD k (⟨#[]⟩, .mk ⟨a0, a1, a2, a3, a4, a5, a6, a7, a8, a9, a10⟩ l f)).1 = f[k].1 := by rw [List.getD_eq_getElem?_getD, List.getElem?_eq_getElem hlt]; rfl
            have hc0 : wq.cell? ⟨g, o + k * 14, none⟩ = some (.string f[k].1) := by have := hc14 0 (by decide); rw [← ek]; exact this
            have hc13 : ∀ j, j < 13 → wq.cell? ⟨g, o + k * 14 + 1 + j, none⟩ = (fc k).cells[j]? := fun j hj => by have := hc14 (j + 1) (by omega); rw [show o + k * 14 + 1 + j = o + k * 14 + (j + 1) by omega]; exact this
            have HS := Lib.hid (List.take_succ_eq_append_getElem hlt)
            have HIH := Lib.hid (fun w' (hb' : Below wq.heap.size wq w') => IH.out f[k].2 (fc k) w' (left - 1) (by omega) (by omega) (by omega) (by omega) (hrd.stays hb'))
            have hfm := hrd.forms
            have hks := HK.out k hlt
            have HKS := Lib.hid hks
            clear hat hrd hsz hn1 hd1 hc14 ek hks
            generalize fc k = c at *
            obtain ⟨⟨p0, p1, p2, p3, p4, p5, p6, p7, p8, p9, p10⟩, q1, q2, q3, n1, n2, n3, m1, m2, m3, rfl⟩ := hfm
            generalize hfk : f[k] = x at *
            clear hfk
            obtain ⟨key, x⟩ := x
            simp only at hc0 HKS HIH
            obtain ⟨c0, c1, c2, c3, c4, c5, c6, c7, c8, c9, c10, c11, c12⟩ := cells13 hc13
            simp only at c0 c1 c2 c3 c4 c5 c6 c7 c8 c9 c10 c11 c12
            clear hc13
            have hz := hbw.size
            have hob := hown.blk
            obtain ⟨cs, hcl, hownq, hrds⟩ := hown
            have HRS := Lib.hid hrds
            have hne : some wq.heap.size ≠ u8.ownBlock := fun h => by have := hob _ h.symm; omega
            have HTL := Lib.hid (show (f.take k).length = k by rw [List.length_take]; omega)
            have hkl : (f.take k).length < 100000000000 := by rw [HTL.out]; have := HNF.out; omega
            have HIH2 := Lib.hid (fun w' (hb' : Below wq.heap.size wq w') (hz' : wq.heap.size + 1 ≤ w'.heap.size) => (HIH.out w' hb').mono (fun e w4 (h : CpPost w' x e w4) => show ∃ c', e = .returned (aggV c') ∧ RdI w4 (fun b => wq.heap.size + 1 ≤ b) c' x ∧ Below (wq.heap.size + 1) w' w4 from by
              obtain ⟨c', e1, e2, e3⟩ := h
              exact ⟨c', e1, e2.mono (fun b hb => by omega), e3.mono hz'⟩))
            clear HIH hrds hob
            go_wp2_with fail
            have hwr : IntKind.i64.wrap (left - 1) = left - 1 := IntWalk.i64_in _ ⟨by omega, by omega⟩
            go_region_held3 (fun w' => w'.cell? ⟨wq.heap.size, 0, none⟩ = some (.string key) ∧ w'.cell? ⟨wq.heap.size, 1, none⟩ = some (.int .i64 p0) ∧ w'.cell? ⟨wq.heap.size, 2, none⟩ = some (.bool p1) ∧ w'.cell? ⟨wq.heap.size, 3, none⟩ = some (.bool p2) ∧ w'.cell? ⟨wq.heap.size, 4, none⟩ = some (.string p3) ∧
                w'.cell? ⟨wq.heap.size, 5, none⟩ = some (.int .i64 p4) ∧ w'.cell? ⟨wq.heap.size, 6, none⟩ = some (.int .i64 p5) ∧ w'.cell? ⟨wq.heap.size, 7, none⟩ = some (.int .i64 p6) ∧ w'.cell? ⟨wq.heap.size, 8, none⟩ = some (.int .i64 p7) ∧ w'.cell? ⟨wq.heap.size, 9, none⟩ = some (.int .i64 p8) ∧ w'.cell? ⟨wq.heap.size, 10, none⟩ = some (.string p9) ∧
                w'.cell? ⟨wq.heap.size, 11, none⟩ = some (.slice q1 n1 m1) ∧ w'.cell? ⟨wq.heap.size, 12, none⟩ = some (.slice q2 n2 m2) ∧ w'.cell? ⟨wq.heap.size, 13, none⟩ = some (.slice q3 n3 m3))
              (first
                | go_keep
                | (go_split_ands
                   refine ⟨?_, ?_, ?_, ?_, ?_, ?_, ?_, ?_, ?_, ?_, ?_, ?_, ?_, ?_⟩ <;> first
                     | exact (hb5.cell (Nat.lt_succ_self _)).trans (by assumption)
                     | exact (hk5 _ _ hne (by have hz4 := hb5.size; simp at hz4; omega)).trans (by assumption)))
              (first
                | (refine step_push2 elemF (by rfl) _ _ (by rfl) (own_below hownq ((((Below.refl _ _).alloc (Nat.le_refl _) _).drew).trans (hb5.mono (Nat.le_succ _)))) (fcells (key, c')) (by rfl) (by intro u hu; obtain ⟨h, b1, b2, b3, m1, m2, m3, o1, o2, o3, rfl⟩ := hrd5.forms; simp [fcells, VC.cells] at hu; rcases hu with rfl | rfl | rfl | rfl | rfl | rfl | rfl | rfl | rfl | rfl | rfl | rfl | rfl | rfl <;> rfl) (by rfl) (by rfl) hkl (by have hz4 := hb5.size; simp at hz4; omega) ?_; intro v' w5 hown5 hg5 hb6 hf5 hk5)
                | (go_at_call 57; refine (HIH2.out _ (((Below.refl _ _).alloc (Nat.le_refl _) _).drew) (by simp)).mono ?_; rintro e w4 ⟨c', rfl, hrd5, hb5⟩))
            have hB4 : Below wq.heap.size wq w4 := (((Below.refl _ _).alloc (Nat.le_refl _) _).drew).trans (hb5.mono (Nat.le_succ _))
            have HR6 : Hid (RdI w4 (fun b => wo.heap.size ≤ b ∧ some b ≠ u8.ownBlock) c' x) := hrd5.mono (fun b hb => ⟨by omega, fun hh => by have := hownq.lt b hh.symm; omega⟩)
            clear hwr
            go_wp2_with fail
            exact ⟨⟨k + 1, by omega, rfl, by rw [HS.out]; exact OwnT.push stbF hcl (fun i h h' => stbF.mono (stbF.kept (HRS.out i h h') (fun b _ hb' => hB4.block b hb') hB4.size) (fun b h => h.1)) ⟨rfl, HKS.out, HR6.out⟩ hown5 hg5 hf5, (hbw.trans (hB4.mono hz)).trans hb6⟩, by simp [intOf]; omega⟩
          case neg =>
            rw [List.take_of_length_le (by omega)] at hown
            have HOF := Lib.hid (hown.sl stbF fcells_len (⟨#[]⟩, ⟨⟨0, false, false, ⟨#[]⟩, 0, 0, 0, 0, 0, ⟨#[]⟩, []⟩, .slice none 0 0, .slice none 0 0, .slice none 0 0⟩) (by have := HNF.out; omega))
            have hz := hbw.size
            have hbw0 : Below w.heap.size w wq := HB5.out.trans (hbw.mono (by have := HZ4.out; omega))
            have hx5 := (hbw.block w.heap.size (by have := HZ4.out; omega)).trans HX4.out
            have hy5 := (hbw.block (w.heap.size + 1) (by have := HZ4.out; omega)).trans HY4.out
            have hz5 : w.heap.size + 2 ≤ wq.heap.size := by have := HZ4.out; omega
            have HX5 := Lib.hid hx5
            have HY5 := Lib.hid hy5
            obtain ⟨⟨x0, x1, x2, x3, x4, x5, x6, x7, x8, x9, x10, x11, x12⟩, xf⟩ := box13 hx5
            obtain ⟨⟨y0, y1, y2, y3, y4, y5, y6, y7, y8, y9, y10, y11, y12⟩, yf⟩ := box13 hy5
            have HBW := Lib.hid hbw
            have HB6 := Lib.hid hbw0
            obtain ⟨b5, c5, rfl⟩ : ∃ (a : Option Addr) (cap : Nat), u5 = .slice a l.length cap := by obtain ⟨_, ⟨a, cap, e, _⟩, _⟩ := HO.out; exact ⟨a, cap, e⟩
            obtain ⟨b8, c8, rfl⟩ : ∃ (a : Option Addr) (cap : Nat), u8 = .slice a f.length cap := by obtain ⟨_, ⟨a, cap, e, _⟩, _⟩ := HOF.out; exact ⟨a, cap, e⟩
            clear hown hx5 hy5 hbw hbw0 HX4 HY4
            go_wp2_with fail
            have hk : ∀ (w9 : World), (∀ b, w.heap.size + 2 ≤ b → w9.heap[b]? = wq.heap[b]?) → w9.heap.size = wq.heap.size → RdI w9 (fun b => w.heap.size ≤ b) ⟨⟨a0, a1, a2, a3, a4, a5, a6, a7, a8, a9, a10⟩, .slice ba a10.length bcap, .slice b5 l.length c5, .slice b8 f.length c8⟩ (.mk ⟨a0, a1, a2, a3, a4, a5, a6, a7, a8, a9, a10⟩ l f) := by
              intro w9 hk9 hz9
              have hzw := HZ4.out
              have hz3 := HZ3.out
              refine RdI.of_rows HOK.out ?_ (HBK.out.mono (fun b hb => by omega)) ?_ ?_
              · exact Sl.kept (HBV4.out.below HBW.out) HBK.out (fun b hb _ => hk9 b hb) (by omega)
              · refine rows_kept stbV HO.out (fun b hb hb' => (hk9 b (by omega)).trans (HBW.out.block b hb')) (by have := HBW.out.size; omega) (by omega)
              · exact rows_kept stbF HOF.out (fun b hb hb' => hk9 b (by omega)) (by omega) (by omega)
            refine bodyPost_ret (v := aggV ⟨⟨a0, a1, a2, a3, a4, a5, a6, a7, a8, a9, a10⟩, .slice ba a10.length bcap, .slice b5 l.length c5, .slice b8 f.length c8⟩) (by simp [results, Tryz.results57, go_sem, y0, y1, y2, y3, y4, y5, y6, y7, y8, y9, y10, y11, y12]) rfl ⟨_, rfl, hk _ (fun b hb => ?_) ?_, ?_⟩
            · repeat rw [heap_setCell_other _ _ b _ (by dsimp only; omega)]
            · simp
            · repeat refine Below.setCell ?_ (by dsimp only; omega) _
              exact HB6.out
end Go.Proofs.YthdninnjjmhpfaaGreatDoor
