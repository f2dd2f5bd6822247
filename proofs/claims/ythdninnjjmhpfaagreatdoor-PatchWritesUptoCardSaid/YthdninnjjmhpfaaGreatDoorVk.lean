/- value.check, Check walked. Conditions: at most 10^6 values in all. -/
import Derived.Test.YthdninnjjmhpfaaGreatDoorVc
import Derived.Test.YthdninnjjmhpfaaGreatDoorLd
import Derived.Deep.DeepCutAuto
import Derived.Deep.CutBlock
namespace Go.Proofs.YthdninnjjmhpfaaGreatDoor
open Go.RowKit
set_option maxHeartbeats 8000000
set_option maxRecDepth 100000

theorem stVk : StT Tryz.prog 30 13 := ⟨by kernel_rfl, by kernel_rfl⟩
theorem stFk : StT Tryz.prog 67 14 := ⟨by kernel_rfl, by kernel_rfl⟩
theorem ck0 {w w1 : World} {N : Nat} {s1 : Int} {X : Obj} {u : Value} (hW : (w.setCell ⟨N, 0, none⟩ (.int .i64 s1)).alloc X = w1) (hN : w.heap[N]? = some (.cells #[u] 3 (0, 0))) : CkW w w1 N s1 X := by
  have hlt : N < w.heap.size := (Array.getElem?_eq_some_iff.1 hN).1
  have hz : (w.setCell ⟨N, 0, none⟩ (.int .i64 s1)).heap.size = w.heap.size := by simp
  subst hW
  refine ⟨rfl, rfl, rfl, by simp, fun k hk hn => ?_, ?_, ?_, hlt⟩
  · rw [heap_alloc_old _ X (by rw [hz]; exact hk), heap_setCell_other _ _ k _ hn]
  · rw [heap_alloc_old _ X (by rw [hz]; exact hlt), heap_setCell_same _ N 0 _ _ _ hN]
    rfl
  · have := heap_alloc_new (w.setCell ⟨N, 0, none⟩ (.int .i64 s1)) X
    rw [hz] at this
    exact this
theorem check_any : ∀ (m : Nat) (v : V) (c : VC) (w : World) (d s : Int) (N : Nat), SizeOf.sizeOf v ≤ m → nodV v ≤ 1000000 → 0 ≤ d → d ≤ 1000 → 0 ≤ s → s ≤ 65536 → RdI w (fun b => b < N) c v → w.heap[N]? = some (.cells #[.int .i64 s] 3 (0, 0)) →
    Calls Tryz.prog 81 #[aggV c, .int .i64 d, .pointer (some ⟨N, 0, none⟩)] w (ChkPost w N (lookV v d s)) := by
  intro m
  induction m with
  | zero => intro v c w d s N hn; exfalso; cases v; rw [V.mk.sizeOf_spec] at hn; omega
  | succ m ih =>
    intro v c w d s N hn hnod hd0 hd1 hs0 hs1 hv hN
    have IH := Lib.hid ih; clear ih
    cases hv with
    | mk h l f bv lv fv lc fc ok hB hl hL hf hK hF sb sl sf =>
    have HSL := Lib.hid (fun i hi => sz_l h l f i hi)
    have HSF := Lib.hid (fun i hi => sz_f h l f i hi)
    have HNL := Lib.hid (fun i hi => nodL_at l i hi)
    have HNF := Lib.hid (fun i hi => nodF_at f i hi)
    have hnod2 := hnod
    rw [nodV_mk] at hnod2
    have HND := Lib.hid hnod2
    have HFL : Hid (f.length ≤ 1000000) := by unfold Hid; have := nodF_len f; omega
    have HN := Lib.hid hn
    obtain ⟨R, hR⟩ : ∃ R, R = lookV (.mk h l f) d s := ⟨_, rfl⟩
    rw [← hR]
    rw [lookV_mk] at hR
    have HRX := Lib.hid hR
    clear hR hn hnod hnod2
    obtain ⟨ks, hks⟩ : ∃ ks, ks = f.map (·.1) := ⟨_, rfl⟩
    have hkl : ks.length = f.length := by rw [hks, List.length_map]
    rw [← hks] at HRX
    have HLS := Lib.hid hl
    have HFS := Lib.hid hf
    have HSBL := Lib.hid sl
    have HSBF := Lib.hid sf
    have HLi := Lib.hid hL
    have HFi := Lib.hid hF
    obtain ⟨ba, bcap, rfl, _⟩ := hB
    obtain ⟨la, lcap, rfl, hl1, ⟨hl2, _⟩, hl3, hl4⟩ := hl
    obtain ⟨fa, fcap, rfl, hf1, ⟨hf2, _⟩, hf3, hf4⟩ := hf
    have HXT := Lib.hid (fun w => extra7_any h (.slice ba h.bytes.length bcap) (.slice la l.length lcap) (.slice fa f.length fcap) h.bytes.length l.length f.length bcap lcap fcap ba la fa w rfl rfl rfl rfl)
    have HDV := Lib.hid (fun w => decValid_any h.neg h.ds h.exp w ok.ds)
    have HTV := Lib.hid (fun w => momValid_any h.tk h.day h.nano h.off w)
    have HUV := Lib.hid (fun w => Valid_any h.text w (by have := ok.text; omega))
    have HKY : Hid (∀ w', Sl w' (.slice fa f.length fcap) f.length 14 (fun i => .string (f.getD i (⟨#[]⟩, V.mk h l f)).1 :: (fc i).cells) → Calls Tryz.prog 117 #[.slice fa f.length fcap] w' fun e w2 => e = .returned (.int .i64 (keysE [] ks)) ∧ Below w'.heap.size w' w2) := by
      intro w' h1
      rw [← hkl] at h1 ⊢
      refine keys_any _ ks _ w' h1 (by have := HFL.out; omega) (fun i hi => ?_) (fun i hi => ?_)
      · have hi' : i < f.length := by omega
        have e : (f.getD i (⟨#[]⟩, V.mk h l f)).1 = ks[i] := by
          simp only [hks, List.getElem_map]
          rw [List.getD_eq_getElem?_getD, List.getElem?_eq_getElem hi']
          rfl
        rw [e]
        refine ⟨rfl, rfl, fun u hu => ?_⟩
        rcases List.mem_cons.1 hu with rfl | hu
        · rfl
        · exact vc_one (hF i hi') u hu
      · have hi' : i < f.length := by omega
        simp only [hks, List.getElem_map]
        exact hK i hi'
    have HOWN := Lib.hid (ownB_xtr h l.length f.length)
    have HONE := Lib.hid (fun ho => one_own h l.length ks (by rw [hkl]; exact ho))
    have HKID := Lib.hid (fun ho => kids_own (h := h) (l := l) (f := f) ho)
    have hone6 : ownB h l.length f.length = false → oneE h l.length ks = 6 := fun ho => by unfold oneE; rw [if_pos (by rw [hkl]; exact ho)]
    have HONE6 := Lib.hid hone6
    have hbd1 := ok.text
    have hbd2 := ok.bytes
    have hNlt : N < w.heap.size := (Array.getElem?_eq_some_iff.1 hN).1
    have xN : w.cell? ⟨N, 0, none⟩ = some (.int .i64 s) := (cell_of_row w N 0 _ _ (0, 0) hN).trans rfl
    have fN : w.frozen? ⟨N, 0, none⟩ = false := by simp [World.frozen?, hN]
    have HNH := Lib.hid hN
    clear hl4 hf4 hL hF hl3 hf3 hK ok hN hks hkl hone6 sb sl sf
    obtain ⟨a0, a1, a2, a3, a4, a5, a6, a7, a8, a9, a10⟩ := h
    simp only [aggV] at HXT ⊢
    simp only [] at HDV HTV HUV hbd1 hbd2
    go_enter Tryz.func81, Tryz.ntmps81
    go_upto_region 2 with fail
    generalize hW : World.alloc (World.setCell _ _ _) _ = w1
    have hck := ck0 hW HNH.out
    clear hW xN fN HNH hNlt
    obtain ⟨X, hXe, hck⟩ : ∃ X, X = _ ∧ CkW w w1 N (s + 1) X := ⟨_, rfl, hck⟩
    have HXE := Lib.hid hXe
    have HCK := Lib.hid hck
    obtain ⟨xn, xnf⟩ := hck.cell
    clear hXe hck
    obtain ⟨⟨x0, x1, x2, x3, x4, x5, x6, x7, x8, x9, x10, x11, x12⟩, xf⟩ := box13 (HCK.out.b.trans (congrArg some HXE.out))
    by_cases h48 : 48 < d
    · have HF := Lib.hid (HRX.out.trans (if_pos h48))
      clear HRX
      go_wp2_with fail
      go_ret
      exact HCK.out.post (R := R) (by rw [HF.out]; rfl) (by rw [HF.out]; intro h; simp at h)
    have HRa := Lib.hid (HRX.out.trans (if_neg h48))
    clear HRX
    by_cases h65 : 65536 ≤ s
    · have HF := Lib.hid (HRa.out.trans (if_pos h65))
      have hq : ((65536 : Int) < s + 1) = True := eq_true (by omega)
      clear HRa h65
      go_wp2_with fail
      go_ret
      exact HCK.out.post (R := R) (by rw [HF.out]; rfl) (by rw [HF.out]; intro h; simp at h)
    have HRb := Lib.hid (HRa.out.trans (if_neg h65))
    have hq65 : ((65536 : Int) < s + 1) = False := eq_false (by omega)
    have HS1 : Hid (s < 65536) := by unfold Hid; omega
    clear HRa h65 hs1
    by_cases hk0 : a0 < 0
    · have HF : Hid (R = (s, 6)) := by
        unfold Hid
        have := HONE6.out (by rw [HOWN.out, decide_eq_false (by dsimp only; omega)]; rfl)
        rw [HRb.out, this]
        rfl
      clear HRb
      go_wp2_with fail
      go_ret
      exact HCK.out.post (R := R) (by rw [HF.out]; rfl) (by rw [HF.out]; intro h; simp at h)
    by_cases hk8 : 8 ≤ a0
    · have HF : Hid (R = (s, 6)) := by
        unfold Hid
        have := HONE6.out (by rw [HOWN.out, decide_eq_false (by dsimp only; omega)]; rfl)
        rw [HRb.out, this]
        rfl
      clear HRb
      go_wp2_with fail
      go_ret
      exact HCK.out.post (R := R) (by rw [HF.out]; rfl) (by rw [HF.out]; intro h; simp at h)
    have HKR : Hid (decide (0 ≤ a0 ∧ a0 ≤ 7) = true) := decide_eq_true (by omega)
    go_wp2_with fail
    refine (HXT.out _).mono ?_
    rintro e w2 ⟨rfl, hb⟩
    have HCK2 := Lib.hid (HCK.out.below hb)
    clear hb xn xnf HCK HXT
    clear x0 x1 x2 x3 x4 x5 x6 x7 x8 x9 x10 x11 x12 xf
    obtain ⟨⟨x0, x1, x2, x3, x4, x5, x6, x7, x8, x9, x10, x11, x12⟩, xf⟩ := box13 (HCK2.out.b.trans (congrArg some HXE.out))
    generalize xtrB _ l.length f.length = qx at *
    cases qx with
    | true =>
      have HF : Hid (R = (s, 6)) := by
        unfold Hid
        have := HONE6.out (by rw [HOWN.out, HKR.out]; rfl)
        rw [HRb.out, this]
        rfl
      clear HRb
      go_wp2_with fail
      go_ret
      exact HCK2.out.post (R := R) (by rw [HF.out]; rfl) (by rw [HF.out]; intro h; simp at h)
    | false =>
    have HO : Hid (ownB ⟨a0, a1, a2, a3, a4, a5, a6, a7, a8, a9, a10⟩ l.length f.length = true) := by unfold Hid; rw [HOWN.out, HKR.out]; rfl
    have HONE2 := Lib.hid (HONE.out HO.out)
    have HKID2 := Lib.hid (HKID.out HO.out)
    clear HONE HKID HONE6 HOWN HKR
    rw [HONE2.out, HKID2.out] at HRb
    clear HONE2 HKID2
    obtain ⟨q8, hq8⟩ : ∃ q : Bool, q = decide ((a0 = 2 ∧ decB a2 (L a3) a4 = false) ∨ (a0 = 3 ∧ timeB a5 a6 a7 a8 = false)) := ⟨_, rfl⟩
    have HQ8 : Hid (True → q8 = decide ((a0 = 2 ∧ decB a2 (L a3) a4 = false) ∨ (a0 = 3 ∧ timeB a5 a6 a7 a8 = false))) := fun _ => hq8
    clear hq8
    go_upto_region 8 with fail
    go_cut [40] (fun v wx => v = .bool q8 ∧ CkW w wx N (s + 1) X)
    case first =>
      clear HRb
      by_cases e2 : a0 = 2
      · have e3 : ¬ a0 = 3 := by omega
        have HQ9 : Hid (True → q8 = !decB a2 (L a3) a4) := fun _ => by rw [HQ8.out trivial]; simp [e2]
        have hq2 : (a0 == 2) = true := by rw [beq_iff_eq]; exact e2
        have hq3 : (a0 == 3) = false := by rw [beq_eq_false_iff_ne]; exact e3
        clear HQ8 e2 e3
        go_wp2_with fail
        refine (HDV.out _).mono ?_
        rintro e w3 ⟨rfl, hb⟩
        have HCK3 := Lib.hid (HCK2.out.below hb)
        clear hb
        clear x0 x1 x2 x3 x4 x5 x6 x7 x8 x9 x10 x11 x12 xf
        obtain ⟨⟨x0, x1, x2, x3, x4, x5, x6, x7, x8, x9, x10, x11, x12⟩, xf⟩ := box13 (HCK3.out.b.trans (congrArg some HXE.out))
        generalize decB a2 (L a3) a4 = qd at *
        have HQ9 := HQ9
        cases qd
        all_goals
          have hq := HQ9.out trivial
          subst hq
          go_wp2_with fail
          go_meet
          exact ⟨rfl, HCK3.out⟩
      · have hq2 : (a0 == 2) = false := by rw [beq_eq_false_iff_ne]; exact e2
        by_cases e3 : a0 = 3
        · have HQ9 : Hid (True → q8 = !timeB a5 a6 a7 a8) := fun _ => by rw [HQ8.out trivial]; simp [e3]
          have hq3 : (a0 == 3) = true := by rw [beq_iff_eq]; exact e3
          clear HQ8 e2 e3
          go_wp2_with fail
          refine (HTV.out _).mono ?_
          rintro e w3 ⟨rfl, hb⟩
          have HCK3 := Lib.hid (HCK2.out.below hb)
          clear hb
          clear x0 x1 x2 x3 x4 x5 x6 x7 x8 x9 x10 x11 x12 xf
          obtain ⟨⟨x0, x1, x2, x3, x4, x5, x6, x7, x8, x9, x10, x11, x12⟩, xf⟩ := box13 (HCK3.out.b.trans (congrArg some HXE.out))
          generalize timeB a5 a6 a7 a8 = qd at *
          have HQ9 := HQ9
          cases qd
          all_goals
            have hq := HQ9.out trivial
            subst hq
            go_wp2_with fail
            go_meet
            exact ⟨rfl, HCK3.out⟩
        · have hq3 : (a0 == 3) = false := by rw [beq_eq_false_iff_ne]; exact e3
          have hq : q8 = false := by rw [HQ8.out trivial]; exact decide_eq_false (fun hh => hh.elim (fun h => e2 h.1) (fun h => e3 h.1))
          subst hq
          clear HQ8 e2 e3
          go_wp2_with fail
          go_meet
          exact ⟨rfl, HCK2.out⟩
    case rest =>
      obtain ⟨rfl, HCK3⟩ := hcut
      replace HCK3 := Lib.hid HCK3
      clear x0 x1 x2 x3 x4 x5 x6 x7 x8 x9 x10 x11 x12 xf
      obtain ⟨⟨x0, x1, x2, x3, x4, x5, x6, x7, x8, x9, x10, x11, x12⟩, xf⟩ := box13 (HCK3.out.b.trans (congrArg some HXE.out))
      cases q8 with
      | true =>
        have HF : Hid (R = (s, 2)) := by
          unfold Hid
          have h := of_decide_eq_true (HQ8.out trivial).symm
          rw [HRb.out, if_pos h]
          rfl
        clear HRb HQ8
        go_wp2_with fail
        go_ret
        exact HCK3.out.post (R := R) (by rw [HF.out]; rfl) (by rw [HF.out]; intro h; simp at h)
      | false =>
        have h := of_decide_eq_false (HQ8.out trivial).symm
        have HRc := HRb.out
        rw [if_neg h] at HRc
        replace HRc := Lib.hid HRc
        clear h HRb HQ8
        obtain ⟨q10, hq10⟩ : ∃ q : Bool, q = decide (a0 = 4 ∧ validL (L a9) = false) := ⟨_, rfl⟩
        have HQ10 : Hid (True → q10 = decide (a0 = 4 ∧ validL (L a9) = false)) := fun _ => hq10
        clear hq10
        go_upto_region 10 with fail
        go_cut [61] (fun v wx => v = .bool q10 ∧ CkW w wx N (s + 1) X)
        case first =>
          clear HRc
          by_cases e4 : a0 = 4
          · have HQ9 : Hid (True → q10 = !validL (L a9)) := fun _ => by rw [HQ10.out trivial]; simp [e4]
            have hq4 : (a0 == 4) = true := by rw [beq_iff_eq]; exact e4
            clear HQ10 e4
            go_wp2_with fail
            refine (HUV.out _).mono ?_
            rintro e w3 ⟨rfl, rfl⟩
            generalize validL (L a9) = qd at *
            have HQ9 := HQ9
            cases qd
            all_goals
              have hq := HQ9.out trivial
              subst hq
              go_wp2_with fail
              go_meet
              exact ⟨rfl, HCK3.out⟩
          · have hq4 : (a0 == 4) = false := by rw [beq_eq_false_iff_ne]; exact e4
            have hq : q10 = false := by rw [HQ10.out trivial]; exact decide_eq_false (fun h => e4 h.1)
            subst hq
            clear HQ10 e4
            go_wp2_with fail
            go_meet
            exact ⟨rfl, HCK3.out⟩
        case rest =>
          obtain ⟨rfl, HCK4⟩ := hcut
          replace HCK4 := Lib.hid HCK4
          clear HCK3
          clear x0 x1 x2 x3 x4 x5 x6 x7 x8 x9 x10 x11 x12 xf
          obtain ⟨⟨x0, x1, x2, x3, x4, x5, x6, x7, x8, x9, x10, x11, x12⟩, xf⟩ := box13 (HCK4.out.b.trans (congrArg some HXE.out))
          cases q10 with
          | true =>
            have HF : Hid (R = (s, 5)) := by
              unfold Hid
              have h := of_decide_eq_true (HQ10.out trivial).symm
              rw [HRc.out, if_pos h]
              rfl
            clear HRc HQ10
            go_wp2_with fail
            go_ret
            exact HCK4.out.post (R := R) (by rw [HF.out]; rfl) (by rw [HF.out]; intro h; simp at h)
          | false =>
            have h := of_decide_eq_false (HQ10.out trivial).symm
            have HRd := HRc.out
            rw [if_neg h] at HRd
            replace HRd := Lib.hid HRd
            clear h HRc HQ10
            by_cases hz1 : 65536 < a9.size
            · have HF : Hid (R = (s, 10)) := by
                unfold Hid
                rw [HRd.out, if_pos (Or.inl hz1)]
                rfl
              have hz : ((65536 : Int) < (a9.size : Int)) = True := eq_true (by omega)
              clear HRd hz1
              go_wp2_with fail
              go_ret
              exact HCK4.out.post (R := R) (by rw [HF.out]; rfl) (by rw [HF.out]; intro h; simp at h)
            by_cases hz2 : 65536 < a10.length
            · have HF : Hid (R = (s, 10)) := by
                unfold Hid
                rw [HRd.out, if_pos (Or.inr hz2)]
                rfl
              have hz : ((65536 : Int) < (a9.size : Int)) = False := eq_false (by omega)
              have hz' : ((65536 : Int) < (a10.length : Int)) = True := eq_true (by omega)
              clear HRd hz1 hz2
              go_wp2_with fail
              go_ret
              exact HCK4.out.post (R := R) (by rw [HF.out]; rfl) (by rw [HF.out]; intro h; simp at h)
            have hz : ((65536 : Int) < (a9.size : Int)) = False := eq_false (by omega)
            have hz' : ((65536 : Int) < (a10.length : Int)) = False := eq_false (by omega)
            have HRe := HRd.out
            rw [if_neg (not_or.2 ⟨hz1, hz2⟩)] at HRe
            replace HRe := Lib.hid HRe
            clear HRd hz1 hz2
            go_wp2_with fail
            refine (HKY.out _ (HCK4.out.sl HFS.out HSBF.out)).mono ?_
            rintro e w3 ⟨rfl, hb⟩
            have HCK5 := Lib.hid (HCK4.out.below hb)
            clear hb HCK4
            clear x0 x1 x2 x3 x4 x5 x6 x7 x8 x9 x10 x11 x12 xf
            obtain ⟨⟨x0, x1, x2, x3, x4, x5, x6, x7, x8, x9, x10, x11, x12⟩, xf⟩ := box13 (HCK5.out.b.trans (congrArg some HXE.out))
            generalize keysE [] ks = kE at *
            by_cases hkE : kE ≠ 0
            · have HF : Hid (R = (s, kE)) := HRe.out.trans (if_pos hkE)
              have hq : ((kE : Int) == 0) = false := by rw [beq_eq_false_iff_ne]; omega
              have hq' : ((kE : Int) != 0) = true := by rw [bne_iff_ne]; omega
              clear HRe hkE
              go_wp2_with fail
              go_ret
              exact HCK5.out.post (R := R) (by rw [HF.out]) (by rw [HF.out]; intro h; exfalso; simp at h; subst h; simp at hq')
            have hkE0 : kE = 0 := by omega
            have HRf : Hid (R = lookL (l ++ f.map (·.2)) (d + 1) (s + 1)) := HRe.out.trans (if_neg hkE)
            clear HRe hkE
            subst hkE0
            go_wp2_with fail
            have HS2 : Hid (s + 1 ≤ 65536) := by unfold Hid; have := HS1.out; omega
            clear x0 x1 x2 x3 x4 x5 x6 x7 x8 x9 x10 x11 x12 xf
            clear HUV HKY HDV HTV hz hz' hbd1 hbd2
            go_loopw [91] (fun iv wr => ∃ (k : Nat) (s1 : Int), k ≤ l.length ∧ iv = .int .i64 k ∧ 0 ≤ s1 ∧ Hid (s1 ≤ 65536) ∧ Hid (R = lookL ((l ++ f.map (·.2)).drop k) (d + 1) s1) ∧ Hid (CkW w wr N s1 X)) (fun iv _ => l.length - (intOf iv).toNat)
            case atStart => exact ⟨0, s + 1, Nat.zero_le _, rfl, by omega, HS2.out, by rw [List.drop_zero]; exact HRf.out, HCK5.out⟩
            case round =>
              clear HRf HCK5
              obtain ⟨k, s1, hk, rfl, hs1, HS1b, HR, HCW⟩ := hrel
              obtain ⟨⟨x0, x1, x2, x3, x4, x5, x6, x7, x8, x9, x10, x11, x12⟩, xf⟩ := box13 (HCW.out.b.trans (congrArg some HXE.out))
              by_cases hlt : k < l.length
              case pos =>
                obtain ⟨_, _, hka, _, _, _, h4⟩ := HCW.out.sl HLS.out HSBL.out
                injection hka with e1 e2 e3
                subst e1 e3
                obtain ⟨g, o, rfl, hg, hat⟩ := h4 (by omega)
                have hrd := HCW.out.rd (HLi.out k hlt)
                have hc13 : Hid (∀ j, j < 13 → wr.cell? ⟨g, o + k * 13 + j, none⟩ = (lc k).cells[j]?) := fun j hj => hat k hlt j hj
                have HONEc := Lib.hid (vc_one hrd)
                clear h4 hat
                go_wp2_with (first
                  | refine wpl_load rfl rfl stVk rfl (cells_len _) hc13.out ?_
                  | (refine wpl_new rfl rfl stVk rfl (cs := (lc k).cells) rfl (cells_len _) HONEc.out rfl rfl rfl ?_; generalize hW1 : World.alloc wr _ = w1; obtain ⟨ha1, _, hz1, hb1⟩ := alloc_of' hW1; have HA1 := Lib.hid ha1; have HB1 := Lib.hid hb1; clear hW1 ha1 hb1)
                  | refine wpl_load rfl rfl stVk rfl (cells_len _) (fun j _ => by rw [Nat.zero_add, cell_of_row _ _ _ _ _ _ HA1.out, List.getElem?_toArray]) ?_)
                have HCW1 := HCW.out.below HB1.out
                have HIH := IH.out l[k] (lc k) w1 (d + 1) s1 N (by have := HSL.out k hlt; have := HN.out; omega) (by have := HNL.out k hlt; have := HND.out; omega) (by omega) (by omega) hs1 HS1b.out (HCW1.rd (HLi.out k hlt)) HCW1.n
                have HS := HR.out.trans (lookL_drop (l ++ f.map (·.2)) k (by rw [List.length_append]; omega) (d + 1) s1)
                rw [List.getElem_append_left hlt] at HS
                have HBD := Lib.hid (lookV_bd _ l[k] (d + 1) s1 (Nat.le_refl _))
                refine HIH.mono ?_
                rintro e w4 ⟨rfl, o1, o2, o3, hz4, hbl, s', hn', hs'⟩
                have HCW4 := Lib.hid (HCW1.upd o1 o2 o3 hz4 hbl hn')
                generalize lookV l[k] (d + 1) s1 = r2 at *
                obtain ⟨s2, e2⟩ := r2
                have HBD2 : Hid (0 ≤ s2 ∧ s2 ≤ 65536) := by unfold Hid; have := HBD.out; have := HS1b.out; simp only at *; omega
                have HSx := Lib.hid HS
                have HSP : Hid (e2 = 0 → s' = s2) := hs'
                clear HS HR HIH HCW HCW1 HBD hs' hn' hbl hz4 o1 o2 o3 HA1 HB1 hrd hc13 HONEc
                clear x0 x1 x2 x3 x4 x5 x6 x7 x8 x9 x10 x11 x12 xf
                obtain ⟨⟨x0, x1, x2, x3, x4, x5, x6, x7, x8, x9, x10, x11, x12⟩, xf⟩ := box13 (HCW4.out.b.trans (congrArg some HXE.out))
                by_cases he : e2 = 0
                case neg =>
                  have HF : Hid (R = (s2, e2)) := by unfold Hid; rw [HSx.out, if_pos he]
                  have hqe : ((e2 : Int) != 0) = true := by rw [bne_iff_ne]; omega
                  have HE := Lib.hid he
                  clear HSx he
                  go_wp2_with fail
                  go_ret
                  exact HCW4.out.post (R := R) (by rw [HF.out]) (by rw [HF.out]; intro h; exact absurd h HE.out)
                case pos =>
                  subst he
                  have hss := HSP.out rfl
                  subst hss
                  have HF : Hid (R = lookL ((l ++ f.map (·.2)).drop (k + 1)) (d + 1) s') := by unfold Hid; rw [HSx.out, if_neg (by simp)]
                  clear HSx HSP
                  go_wp2_with fail
                  exact ⟨⟨k + 1, s', by omega, rfl, HBD2.out.1, HBD2.out.2, HF, HCW4⟩, by simp [intOf]; omega⟩
              case neg =>
                have hkl : k = l.length := by omega
                subst hkl
                go_wp2_with fail
                clear x0 x1 x2 x3 x4 x5 x6 x7 x8 x9 x10 x11 x12 xf hlt hk
                go_loopw [107] (fun iv wq => ∃ (k : Nat) (s1 : Int), k ≤ f.length ∧ iv = .int .i64 k ∧ 0 ≤ s1 ∧ Hid (s1 ≤ 65536) ∧ Hid (R = lookL ((l ++ f.map (·.2)).drop (l.length + k)) (d + 1) s1) ∧ Hid (CkW w wq N s1 X)) (fun iv _ => f.length - (intOf iv).toNat)
                case atStart => exact ⟨0, s1, Nat.zero_le _, rfl, hs1, HS1b.out, HR.out, HCW.out⟩
                case round =>
                  clear HR HCW HS1b hs1
                  obtain ⟨k, s1, hk, rfl, hs1, HS1b, HR, HCW⟩ := hrel
                  obtain ⟨⟨x0, x1, x2, x3, x4, x5, x6, x7, x8, x9, x10, x11, x12⟩, xf⟩ := box13 (HCW.out.b.trans (congrArg some HXE.out))
                  by_cases hlt : k < f.length
                  case neg =>
                    have HF : Hid (R = (s1, 0)) := by unfold Hid; rw [HR.out, List.drop_of_length_le (by rw [List.length_append, List.length_map]; omega), lookL]
                    clear HR
                    go_wp2_with fail
                    go_ret
                    exact HCW.out.post (R := R) (by rw [HF.out]; rfl) (by rw [HF.out]; intro; rfl)
                  case pos =>
                    obtain ⟨_, _, hka, _, _, _, h4⟩ := HCW.out.sl HFS.out HSBF.out
                    injection hka with e1 e2 e3
                    subst e1 e3
                    obtain ⟨g, o, rfl, hg, hat⟩ := h4 (by omega)
                    have hrd := HCW.out.rd (HFi.out k hlt)
                    generalize hkx : (f.getD k (⟨#[]⟩, V.mk ⟨a0, a1, a2, a3, a4, a5, a6, a7, a8, a9, a10⟩ l f)).1 = kx at *
                    have hc14 : Hid (∀ j, j < 14 → wr.cell? ⟨g, o + k * 14 + j, none⟩ = (Value.string kx :: (fc k).cells)[j]?) := fun j hj => by rw [← hkx]; exact hat k hlt j hj
                    have HONEc : Hid (∀ u ∈ Value.string kx :: (fc k).cells, u.oneCell' = true) := fun u hu => by
                      rcases List.mem_cons.1 hu with rfl | hu
                      · rfl
                      · exact vc_one hrd u hu
                    clear h4 hat hkx
                    go_wp2_with (first
                      | refine wpl_load rfl rfl stFk rfl (by rw [List.length_cons, cells_len]) hc14.out ?_
                      | (refine wpl_new rfl rfl stFk rfl (cs := Value.string kx :: (fc k).cells) rfl (by rw [List.length_cons, cells_len]) HONEc.out rfl rfl rfl ?_; generalize hW1 : World.alloc wr _ = w1; obtain ⟨ha1, _, hz1, hb1⟩ := alloc_of' hW1; have HA1 := Lib.hid ha1; have HB1 := Lib.hid hb1; clear hW1 ha1 hb1)
                      | refine wpl_load rfl rfl stVk rfl (cells_len (fc k)) (fun j _ => by rw [cell_of_row _ _ _ _ _ _ HA1.out, List.getElem?_toArray, Nat.add_comm 1 j, List.getElem?_cons_succ]) ?_)
                    have HCW1 := HCW.out.below HB1.out
                    have HIH := IH.out f[k].2 (fc k) w1 (d + 1) s1 N (by have := HSF.out k hlt; have := HN.out; omega) (by have := HNF.out k hlt; have := HND.out; omega) (by omega) (by omega) hs1 HS1b.out (HCW1.rd (HFi.out k hlt)) HCW1.n
                    have HS := HR.out.trans (lookL_drop (l ++ f.map (·.2)) (l.length + k) (by rw [List.length_append, List.length_map]; omega) (d + 1) s1)
                    have hel : (l ++ f.map (·.2))[l.length + k]'(by rw [List.length_append, List.length_map]; omega) = f[k].2 := by
                      rw [List.getElem_append_right (by omega)]
                      simp
                    rw [hel] at HS
                    have HBD := Lib.hid (lookV_bd _ f[k].2 (d + 1) s1 (Nat.le_refl _))
                    refine HIH.mono ?_
                    rintro e w4 ⟨rfl, o1, o2, o3, hz4, hbl, s', hn', hs'⟩
                    have HCW4 := Lib.hid (HCW1.upd o1 o2 o3 hz4 hbl hn')
                    clear hel
                    generalize lookV f[k].2 (d + 1) s1 = r2 at *
                    obtain ⟨s2, e2⟩ := r2
                    have HBD2 : Hid (0 ≤ s2 ∧ s2 ≤ 65536) := by unfold Hid; have := HBD.out; have := HS1b.out; simp only at *; omega
                    have HSx := Lib.hid HS
                    have HSP : Hid (e2 = 0 → s' = s2) := hs'
                    clear HS HR HIH HCW HCW1 HBD hs' hn' hbl hz4 o1 o2 o3 HA1 HB1 hrd hc14 HONEc
                    clear x0 x1 x2 x3 x4 x5 x6 x7 x8 x9 x10 x11 x12 xf
                    obtain ⟨⟨x0, x1, x2, x3, x4, x5, x6, x7, x8, x9, x10, x11, x12⟩, xf⟩ := box13 (HCW4.out.b.trans (congrArg some HXE.out))
                    by_cases he : e2 = 0
                    case neg =>
                      have HF : Hid (R = (s2, e2)) := by unfold Hid; rw [HSx.out, if_pos he]
                      have hqe : ((e2 : Int) != 0) = true := by rw [bne_iff_ne]; omega
                      have HE := Lib.hid he
                      clear HSx he
                      go_wp2_with fail
                      go_ret
                      exact HCW4.out.post (R := R) (by rw [HF.out]) (by rw [HF.out]; intro h; exact absurd h HE.out)
                    case pos =>
                      subst he
                      have hss := HSP.out rfl
                      subst hss
                      have HF : Hid (R = lookL ((l ++ f.map (·.2)).drop (l.length + (k + 1))) (d + 1) s') := by unfold Hid; rw [HSx.out, if_neg (by simp), Nat.add_assoc]
                      clear HSx HSP
                      go_wp2_with fail
                      exact ⟨⟨k + 1, s', by omega, rfl, HBD2.out.1, HBD2.out.2, HF, HCW4⟩, by simp [intOf]; omega⟩
end Go.Proofs.YthdninnjjmhpfaaGreatDoor
