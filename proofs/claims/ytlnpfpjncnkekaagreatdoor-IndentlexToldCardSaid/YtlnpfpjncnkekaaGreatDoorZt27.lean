/- datakitref07.look, Check walked. Conditions: at most 10^6 values in all. -/
import Derived.Test.YtlnpfpjncnkekaaGreatDoorZt23
import Derived.Test.YtlnpfpjncnkekaaGreatDoorZt12
import Derived.Test.YtlnpfpjncnkekaaGreatDoorZt26
namespace Go.Proofs.YtlnpfpjncnkekaaGreatDoor
open Go.RowKit
set_option maxHeartbeats 4000000
set_option maxRecDepth 100000

theorem keysE_drop (ks : List ByteArray) (k : Nat) (h : k < ks.length) : keysE (ks.take k) (ks.drop k) = if validL (L ks[k]) = false then 5 else if 1024 < ks[k].size then 10 else if (ks.take k).any (fun x => decide (L x = L ks[k])) = true then 8 else keysE (ks.take (k + 1)) (ks.drop (k + 1)) := by
  rw [List.drop_eq_getElem_cons h, keysE, List.take_succ_eq_append_getElem h]
theorem any_snoc {α : Type} (p : α → Bool) (l : List α) (j : Nat) (h : j < l.length) : (l.take (j + 1)).any p = ((l.take j).any p || p l[j]) := by
  rw [List.take_succ_eq_append_getElem h, List.any_append]
  simp
theorem any_hit {α : Type} (p : α → Bool) (l : List α) (j k : Nat) (hk : k ≤ l.length) (hj : j < k) (h : p (l[j]'(by omega)) = true) : (l.take k).any p = true := by
  rw [List.any_eq_true]
  refine ⟨l[j]'(by omega), ?_, h⟩
  have : (l.take k)[j]'(by rw [List.length_take]; omega) = l[j]'(by omega) := List.getElem_take
  rw [← this]
  exact List.getElem_mem _
theorem Keys7_any (v : Value) (ks : List ByteArray) (cc : Nat → List Value) (w : World) (hs : Sl w v ks.length 14 cc) (hc : ∀ i (hi : i < ks.length), (cc i)[0]? = some (.string ks[i])) (hz : ∀ i (hi : i < ks.length), ks[i].size ≤ 1000000000) :
    Calls Tryz.prog 89 #[v] w fun e w' => e = .returned (.int .i64 (keysE [] ks)) ∧ Below w.heap.size w w' := by
  obtain ⟨a, cap, rfl, h1, ⟨h2, _⟩, h3, h4⟩ := hs
  have HA := Lib.hid h4
  have HC := Lib.hid hc
  have HZ := Lib.hid hz
  clear h4 hc hz h3
  obtain ⟨r, hr⟩ : ∃ r, r = keysE [] ks := ⟨_, rfl⟩
  rw [← hr]
  have HR := Lib.hid hr; clear hr
  go_enter Tryz.func89, Tryz.ntmps89
  go_wp2_with fail
  go_loopw [3, 4] (fun i _ wr => ∃ k : Nat, k ≤ ks.length ∧ i = .int .i64 k ∧ Hid (r = keysE (ks.take k) (ks.drop k)) ∧ Below w.heap.size w wr) (fun i _ _ => ks.length - (intOf i).toNat)
  case atStart => exact ⟨0, Nat.zero_le _, rfl, HR.out, Below.refl _ _⟩
  case round =>
    clear HR
    obtain ⟨k, hk, rfl, HR, hbw⟩ := hrel
    by_cases hlt : k < ks.length
    case neg =>
      have HF : Hid (r = 0) := by unfold Hid; rw [HR.out, List.drop_of_length_le (by omega), keysE]
      clear HR
      go_wp2_with fail
      go_ret
      exact ⟨ri (by rw [HF.out]; rfl), hbw⟩
    obtain ⟨g, o, rfl, hg, hat⟩ := HA.out (by omega)
    have hc0 : wr.cell? ⟨g, o + k * 14, none⟩ = some (.string ks[k]) := (hbw.cell hg).trans ((hat k hlt 0 (by decide)).trans (HC.out k hlt))
    have HK0 := Lib.hid hc0
    have HS := Lib.hid (HR.out.trans (keysE_drop ks k hlt))
    have HV := Lib.hid (fun w => Valid3_any ks[k] w (HZ.out k hlt))
    have HAT := Lib.hid hat
    clear HR hat
    cases hv : validL (L ks[k]) with
    | false =>
      rw [hv] at HS HV
      clear hv
      have HF : Hid (r = 5) := by unfold Hid; rw [HS.out, if_pos rfl]
      clear HS
      go_wp2_with fail
      refine (HV.out _).mono ?_
      rintro e w2 ⟨rfl, hb2⟩
      have hbw2 := hbw.trans (hb2.mono hbw.size)
      go_wp2_with fail
      go_ret
      exact ⟨ri (by rw [HF.out]; rfl), hbw2⟩
    | true =>
      rw [hv] at HS HV
      clear hv
      by_cases hn : 1024 < ks[k].size
      · have HF : Hid (r = 10) := by unfold Hid; rw [HS.out, if_neg (by decide), if_pos hn]
        have hni : (1024 : Int) < ks[k].size := by omega
        clear HS hn
        go_wp2_with fail
        refine (HV.out _).mono ?_
        rintro e w2 ⟨rfl, hb2⟩
        have hbw2 := hbw.trans (hb2.mono hbw.size)
        have hd0 : w2.cell? ⟨g, o + k * 14, none⟩ = some (.string ks[k]) := (hb2.cell (cell_lt HK0.out)).trans HK0.out
        go_wp2_with fail
        go_ret
        exact ⟨ri (by rw [HF.out]; rfl), hbw2⟩
      have hni : ¬ (1024 : Int) < ks[k].size := by omega
      have HS2 : Hid (r = if (ks.take k).any (fun x => decide (L x = L ks[k])) = true then 8 else keysE (ks.take (k + 1)) (ks.drop (k + 1))) := by unfold Hid; rw [HS.out, if_neg (by decide), if_neg hn]
      clear HS hn
      go_wp2_with fail
      refine (HV.out _).mono ?_
      rintro e w2 ⟨rfl, hb2⟩
      have hbw2 := hbw.trans (hb2.mono hbw.size)
      have hd0 : w2.cell? ⟨g, o + k * 14, none⟩ = some (.string ks[k]) := (hb2.cell (cell_lt HK0.out)).trans HK0.out
      clear hb2 hbw hc0 HK0 HV
      go_wp2_with fail
      obtain ⟨w2, rfl⟩ : ∃ w3 : World, w3 = w2 := ⟨_, rfl⟩
      clear hd0
      go_loopw [4] (fun jv wq => ∃ j : Nat, j ≤ k ∧ jv = .int .i64 j ∧ Hid ((ks.take j).any (fun x => decide (L x = L ks[k])) = false) ∧ Below w.heap.size w wq) (fun jv _ => k - (intOf jv).toNat)
      case atStart => exact ⟨0, Nat.zero_le _, rfl, rfl, hbw2⟩
      case round =>
        clear hbw2
        obtain ⟨wq, rfl⟩ : ∃ wq : World, wq = wr := ⟨_, rfl⟩
        obtain ⟨j, hj, rfl, HN, hbw⟩ := hrel
        by_cases hjk : j < k
        case neg =>
          obtain rfl : j = k := by omega
          have HF : Hid (r = keysE (ks.take (j + 1)) (ks.drop (j + 1))) := by unfold Hid; rw [HS2.out, HN.out, if_neg (by decide)]
          clear HS2 HN
          go_wp2_with fail
          exact ⟨⟨j + 1, by omega, rfl, HF, hbw⟩, by simp [intOf]; omega⟩
        have hjl : j < ks.length := by omega
        have hc0 : wq.cell? ⟨g, o + k * 14, none⟩ = some (.string ks[k]) := (hbw.cell hg).trans ((HAT.out k hlt 0 (by decide)).trans (HC.out k hlt))
        have hc1 : wq.cell? ⟨g, o + j * 14, none⟩ = some (.string ks[j]) := (hbw.cell hg).trans ((HAT.out j hjl 0 (by decide)).trans (HC.out j hjl))
        by_cases he : L ks[j] = L ks[k]
        · have HF : Hid (r = 8) := by unfold Hid; rw [HS2.out, any_hit _ ks j k (by omega) hjk (decide_eq_true he), if_pos rfl]
          have hq : (ks[j].toList == ks[k].toList) = true := by rw [toList_L, toList_L, beq_iff_eq]; exact he
          clear HS2 HN he
          go_wp2_with fail
          go_quiet (fail)
          go_wp2_with fail
          go_ret
          exact ⟨ri (by rw [HF.out]; rfl), Below.drewN' hbw⟩
        · have HF : Hid ((ks.take (j + 1)).any (fun x => decide (L x = L ks[k])) = false) := by unfold Hid; rw [any_snoc _ _ _ hjl, HN.out, decide_eq_false he]; rfl
          have hq : (ks[j].toList == ks[k].toList) = false := by rw [toList_L, toList_L, beq_eq_false_iff_ne]; exact he
          clear HS2 HN he
          go_wp2_with fail
          go_quiet (fail)
          go_wp2_with fail
          exact ⟨⟨j + 1, by omega, rfl, HF, Below.drewN' hbw⟩, by simp [intOf]; omega⟩
/-- What a value's own parts are in memory, after a world has grown. -/
theorem held13 {w w1 : World} {y : Obj} (hb : Below (w.alloc y).heap.size (w.alloc y) w1) : Below w.heap.size w w1 ∧ w1.heap[w.heap.size]? = some y ∧ w.heap.size < w1.heap.size := by
  refine ⟨((Below.refl _ _).alloc (Nat.le_refl _) _).trans (hb.mono (by simp)), (hb.block _ (by simp)).trans (heap_alloc_new w _), ?_⟩
  have := hb.size
  simp at this
  omega
def KidsPost (w : World) (v : V) (e : Ending) (w' : World) : Prop :=
  ∃ (a : Option Addr) (cap : Nat) (lc : Nat → VC), e = .returned (.slice a (kidsV v).length cap) ∧ Sl w' (.slice a (kidsV v).length cap) (kidsV v).length 13 (fun i => (lc i).cells) ∧ (∀ i (hi : i < (kidsV v).length), RdV w' (lc i) (kidsV v)[i]) ∧ Below w.heap.size w w'
theorem kidsV_l {h : Hd} {l : List V} {f : List (ByteArray × V)} (hk : ¬ h.kind = 7) : kidsV (.mk h l f) = l := by rw [kidsV, if_neg hk]
theorem kidsV_f {h : Hd} {l : List V} {f : List (ByteArray × V)} (hk : h.kind = 7) : kidsV (.mk h l f) = f.map (·.2) := by rw [kidsV, if_pos hk]
theorem Kids7_any (v : V) (c : VC) (w : World) (hn : nodV v ≤ 1000000) (hv : RdV w c v) :
    Calls Tryz.prog 43 #[aggV c] w (KidsPost w v) := by
  cases hv with
  | mk h l f bv lv fv lc fc ok hB hl hL hf hK hF _ _ _ =>
  obtain ⟨ba, bcap, rfl, _⟩ := hB
  obtain ⟨la, lcap, rfl, hl1, ⟨hl2, hl5⟩, hl3, hl4⟩ := hl
  obtain ⟨fa, fcap, rfl, hf1, ⟨hf2, _⟩, hf3, hf4⟩ := hf
  have HLS : Hid (Sl w (.slice la l.length lcap) l.length 13 (fun i => (lc i).cells)) := ⟨la, lcap, rfl, hl1, ⟨hl2, hl5⟩, hl3, hl4⟩
  have HFc := Lib.hid hf4
  have HLi := Lib.hid hL
  have HFi := Lib.hid hF
  rw [nodV_mk] at hn
  have HN : Hid (f.length ≤ 1000000) := by unfold Hid; have := nodF_len f; omega
  clear hl4 hf4 hL hF ok hl3 hf3 hK hn hl5
  obtain ⟨a0, a1, a2, a3, a4, a5, a6, a7, a8, a9, a10⟩ := h
  simp only [aggV]
  have hb : ∀ x, Below w.heap.size w (w.alloc x) := fun x => (Below.refl _ _).alloc (Nat.le_refl _) _
  have HB := Lib.hid hb; clear hb
  by_cases hk : a0 = 7
  case neg =>
    have HE := kidsV_l (l := l) (f := f) (h := ⟨a0, a1, a2, a3, a4, a5, a6, a7, a8, a9, a10⟩) hk
    have hq : (a0 != 7) = true := by rw [bne_iff_ne]; exact hk
    clear hk
    have HP : Hid (∀ w', Below w.heap.size w w' → KidsPost w (.mk ⟨a0, a1, a2, a3, a4, a5, a6, a7, a8, a9, a10⟩ l f) (.returned (.slice la l.length lcap)) w') := by
      intro w' hb
      unfold KidsPost
      rw [HE]
      exact ⟨la, lcap, lc, rfl, HLS.out.below hb, fun i hi => (HLi.out i hi).stays hb, hb⟩
    clear HE
    go_enter Tryz.func43, Tryz.ntmps43
    go_wp2_with fail
    go_ret
    exact HP.out _ (HB.out _)
  case pos =>
    have HE := kidsV_f (l := l) (f := f) (h := ⟨a0, a1, a2, a3, a4, a5, a6, a7, a8, a9, a10⟩) hk
    have hq : (a0 != 7) = false := by rw [bne_eq_false_iff_eq]; exact hk
    obtain ⟨cl, hcl, hcg⟩ : ∃ cl : List VC, cl.length = f.length ∧ ∀ i (hi : i < cl.length), cl[i] = fc i := ⟨(List.range f.length).map fc, by simp, fun i hi => by simp⟩
    have HCL := Lib.hid hcl
    have HCG := Lib.hid hcg
    have HP : Hid (∀ w' a cap, Below w.heap.size w w' → Sl w' (.slice a f.length cap) f.length 13 (fun i => (fc i).cells) → KidsPost w (.mk ⟨a0, a1, a2, a3, a4, a5, a6, a7, a8, a9, a10⟩ l f) (.returned (.slice a f.length cap)) w') := by
      intro w' a cap hb hs
      unfold KidsPost
      rw [HE]
      have e : (f.map (·.2)).length = f.length := List.length_map _
      refine ⟨a, cap, fc, by rw [e], by rw [e]; exact hs, fun i hi => ?_, hb⟩
      rw [List.getElem_map]
      exact (HFi.out i (by omega)).stays hb
    clear HE hk hcl hcg
    go_enter Tryz.func43, Tryz.ntmps43
    go_wp2_with fail
    have HX := Lib.hid (heap_alloc_new w (.cells #[.int .i64 a0, .bool a1, .bool a2, .string a3, .int .i64 a4, .int .i64 a5, .int .i64 a6, .int .i64 a7, .int .i64 a8, .string a9, .slice ba a10.length bcap, .slice la l.length lcap, .slice fa f.length fcap] 30))
    have hz1 : (w.alloc (.cells #[.int .i64 a0, .bool a1, .bool a2, .string a3, .int .i64 a4, .int .i64 a5, .int .i64 a6, .int .i64 a7, .int .i64 a8, .string a9, .slice ba a10.length bcap, .slice la l.length lcap, .slice fa f.length fcap] 30)).heap.size = w.heap.size + 1 := by simp
    have hb1 := HB.out (.cells #[.int .i64 a0, .bool a1, .bool a2, .string a3, .int .i64 a4, .int .i64 a5, .int .i64 a6, .int .i64 a7, .int .i64 a8, .string a9, .slice ba a10.length bcap, .slice la l.length lcap, .slice fa f.length fcap] 30)
    have HZ1 := Lib.hid hz1
    have HB1 := Lib.hid hb1
    clear hz1 hb1
    generalize w.alloc (.cells #[.int .i64 a0, .bool a1, .bool a2, .string a3, .int .i64 a4, .int .i64 a5, .int .i64 a6, .int .i64 a7, .int .i64 a8, .string a9, .slice ba a10.length bcap, .slice la l.length lcap, .slice fa f.length fcap] 30) = w1 at *
    go_loopw [3, 4] (fun o iv wr => ∃ k : Nat, k ≤ f.length ∧ iv = .int .i64 k ∧ wr.ownsRow w1.heap.size 30 13 o k ((cl.take k).flatMap VC.cells) ∧ Below w1.heap.size w1 wr) (fun _ iv _ => f.length - (intOf iv).toNat)
    case atStart => exact ⟨0, Nat.zero_le _, rfl, World.ownsRow_nil _ _ _ _, Below.refl _ _⟩
    case round =>
      obtain ⟨k, hk, rfl, hown, hbw⟩ := hrel
      have hz := hbw.size
      obtain ⟨⟨x0, x1, x2, x3, x4, x5, x6, x7, x8, x9, x10, x11, x12⟩, xf⟩ := box13 ((hbw.block w.heap.size (by have := HZ1.out; omega)).trans HX.out)
      clear x1 x2 x3 x4 x5 x6 x7 x8 x9 x10 x11 xf
      have hbw0 : Below w.heap.size w wr := HB1.out.trans (hbw.mono (by have := HZ1.out; omega))
      by_cases hlt : k < f.length
      case pos =>
        obtain ⟨g, o, rfl, hg, hat⟩ := HFc.out (by omega)
        have hc13 : ∀ j, j < 13 → wr.cell? ⟨g, o + k * 14 + 1 + j, none⟩ = (fc k).cells[j]? := fun j hj => by have := (hbw0.cell hg).trans (hat k hlt (j + 1) (by omega)); rw [show o + k * 14 + 1 + j = o + k * 14 + (j + 1) by omega]; exact this
        have hks : k < cl.length := by rw [HCL.out]; exact hlt
        have HS : Hid ((cl.take (k + 1)).flatMap VC.cells = (cl.take k).flatMap VC.cells ++ (fc k).cells) := by
          unfold Hid
          rw [List.take_succ_eq_append_getElem hks, List.flatMap_append, HCG.out k hks]
          simp
        have hfm := (HFi.out k hlt).forms
        have hkl : k < 100000000000 := by have := HN.out; omega
        clear hat hks
        generalize fc k = c at *
        obtain ⟨⟨p0, p1, p2, p3, p4, p5, p6, p7, p8, p9, p10⟩, q1, q2, q3, n1, n2, n3, m1, m2, m3, rfl⟩ := hfm
        obtain ⟨c0, c1, c2, c3, c4, c5, c6, c7, c8, c9, c10, c11, c12⟩ := cells13 hc13
        simp only at c0 c1 c2 c3 c4 c5 c6 c7 c8 c9 c10 c11 c12
        clear hc13
        go_wp2_with (at_builtin; refine wp_push2 elemV rfl _ _ rfl hown [.int .i64 p0, .bool p1, .bool p2, .string p3, .int .i64 p4, .int .i64 p5, .int .i64 p6, .int .i64 p7, .int .i64 p8, .string p9, .slice q1 n1 m1, .slice q2 n2 m2, .slice q3 n3 m3] rfl (by intro u hu; simp at hu; rcases hu with rfl | rfl | rfl | rfl | rfl | rfl | rfl | rfl | rfl | rfl | rfl | rfl | rfl <;> rfl) rfl rfl hkl (by omega) ?_; intro v' w5 hown5 hg5 hb5 hf5)
        exact ⟨⟨k + 1, by omega, rfl, by rw [HS.out]; exact hown5, hbw.trans hb5⟩, by simp [intOf]; omega⟩
      case neg =>
        obtain rfl : k = f.length := by omega
        have HO : Hid (∃ a cap, u3 = .slice a f.length cap ∧ Sl wr (.slice a f.length cap) f.length 13 (fun i => (fc i).cells)) := by
          unfold Hid
          rw [List.take_of_length_le (by have := HCL.out; omega)] at hown
          have := Sl.of_own (w := wr) VC.cells cells_len cl (by rw [HCL.out]; exact hown) (by have := HN.out; have := HCL.out; omega) (fun i => (fc i).cells) (fun i hi => by rw [HCG.out i hi])
          rw [HCL.out] at this
          have h2 := this
          obtain ⟨a, cap, e, _⟩ := this
          rw [e] at h2
          exact ⟨a, cap, e, h2⟩
        clear hown
        obtain ⟨a, cap, rfl, hs⟩ := HO.out
        have HSL := Lib.hid hs
        clear HO hs
        go_wp2_with fail
        go_ret
        exact HP.out _ _ _ hbw0 HSL.out
theorem one7_any (h : Hd) (l : List V) (f : List (ByteArray × V)) (c : VC) (w : World) (hv : RdV w c (.mk h l f)) :
    Calls Tryz.prog 42 #[aggV c] w fun e w' => e = .returned (.int .i64 (oneE h l.length (f.map (·.1)))) ∧ Below w.heap.size w w' := by
  cases hv with
  | mk h l f bv lv fv lc fc ok hB hl hL hf hK hF _ _ _ =>
  obtain ⟨ba, bcap, rfl, hb1, ⟨hb2, _⟩, hb3, hb4⟩ := hB
  obtain ⟨la, lcap, rfl, hl1, ⟨hl2, hl5⟩, hl3, hl4⟩ := hl
  have hf0 := hf
  obtain ⟨fa, fcap, rfl, _⟩ := hf
  obtain ⟨a0, a1, a2, a3, a4, a5, a6, a7, a8, a9, a10⟩ := h
  obtain ⟨ks, hks⟩ : ∃ ks, ks = f.map (·.1) := ⟨_, rfl⟩
  have hkl : ks.length = f.length := by rw [hks, List.length_map]
  have HOWN := Lib.hid (fun w => own7_any ⟨a0, a1, a2, a3, a4, a5, a6, a7, a8, a9, a10⟩ (.slice ba a10.length bcap) (.slice la l.length lcap) (.slice fa f.length fcap) a10.length l.length f.length bcap lcap fcap ba la fa w rfl rfl rfl rfl)
  have HV2 := Lib.hid (fun w => Valid2_any a2 a3 a4 w ok.ds)
  have HV5 := Lib.hid (fun w => Valid5_any a5 a6 a7 a8 w)
  have HV3 := Lib.hid (fun w => Valid3_any a9 w ok.text)
  have HKY : Hid (∀ w', Below w.heap.size w w' → Calls Tryz.prog 89 #[.slice fa f.length fcap] w' fun e w2 => e = .returned (.int .i64 (keysE [] ks)) ∧ Below w'.heap.size w' w2) := by
    intro w' hb
    have h1 := hf0.below hb
    rw [← hkl] at h1 ⊢
    refine Keys7_any _ ks _ w' h1 (fun i hi => ?_) (fun i hi => ?_)
    · have hi' : i < f.length := by omega
      have : (f.getD i (⟨#[]⟩, V.mk ⟨a0, a1, a2, a3, a4, a5, a6, a7, a8, a9, a10⟩ l f)).1 = ks[i] := by
        simp only [hks, List.getElem_map]
        rw [List.getD_eq_getElem?_getD, List.getElem?_eq_getElem hi']
        rfl
      rw [this]
      rfl
    · have hi' : i < f.length := by omega
      simp only [hks, List.getElem_map]
      exact hK i hi'
  rw [← hks]
  obtain ⟨r, hr⟩ : ∃ r, r = oneE ⟨a0, a1, a2, a3, a4, a5, a6, a7, a8, a9, a10⟩ l.length ks := ⟨_, rfl⟩
  rw [← hr]
  unfold oneE at hr
  rw [hkl] at hr
  have HR := Lib.hid hr
  have hbd1 : a9.size ≤ 1000000000 := ok.text
  have hbd2 : a10.length ≤ 1000000000 := ok.bytes
  clear hr hks hkl hf0 hK hF hL hl4 hb4 ok hl3 hb3
  simp only [aggV]
  go_enter Tryz.func42, Tryz.ntmps42
  go_wp2_with fail
  refine (HOWN.out _).mono ?_
  rintro e w1 ⟨rfl, hb⟩
  obtain ⟨hbw, hx, hz⟩ := held13 hb
  obtain ⟨⟨x0, x1, x2, x3, x4, x5, x6, x7, x8, x9, x10, x11, x12⟩, xf⟩ := box13 hx
  have HX := Lib.hid hx
  clear hx hb HOWN
  generalize ownB ⟨a0, a1, a2, a3, a4, a5, a6, a7, a8, a9, a10⟩ l.length f.length = q1 at *
  cases q1 with
  | false =>
    have HF : Hid (r = 6) := by unfold Hid; rw [HR.out, if_pos rfl]
    clear HR
    go_wp2_with fail
    go_ret
    exact ⟨ri (by rw [HF.out]; rfl), hbw⟩
  | true =>
  have HR1 := Lib.hid (HR.out.trans (if_neg (by decide)))
  clear HR
  go_wp2_with fail
  refine (HV2.out _).mono ?_
  rintro e w2 ⟨rfl, hb⟩
  have hbw2 := hbw.trans (hb.mono hbw.size)
  have HX2 := Lib.hid ((hb.block _ hz).trans HX.out)
  have hz2 := Nat.lt_of_lt_of_le hz hb.size
  clear x0 x1 x2 x3 x4 x5 x6 x7 x8 x9 x10 x11 x12 xf HX hb hbw hz HV2
  obtain ⟨⟨x0, x1, x2, x3, x4, x5, x6, x7, x8, x9, x10, x11, x12⟩, xf⟩ := box13 HX2.out
  generalize decB a2 (L a3) a4 = q2 at *
  cases q2 with
  | false =>
    have HF : Hid (r = 2) := by unfold Hid; rw [HR1.out, if_pos (.inl rfl)]
    clear HR1
    go_wp2_with fail
    go_ret
    exact ⟨ri (by rw [HF.out]; rfl), hbw2⟩
  | true =>
  obtain ⟨q, hq⟩ : ∃ q : Bool, q = decide (a0 = 3 ∧ timeB a5 a6 a7 a8 = false) := ⟨_, rfl⟩
  have HR2 : Hid (r = if q = true then 2 else if validL (L a9) = false then 5 else if 65536 < a9.size ∨ 65536 < a10.length then 10 else keysE [] ks) := by
    unfold Hid
    rw [HR1.out, hq]
    simp only [Bool.true_eq_false, false_or, decide_eq_true_eq]
  clear HR1
  have HQ := Lib.hid hq
  clear hq
  have HB2 := Lib.hid hbw2
  have HZ2 := Lib.hid hz2
  clear hbw2 hz2
  by_cases ha : a0 = 3
  case neg =>
    have hqa : (a0 == 3) = false := by rw [beq_eq_false_iff_ne]; exact ha
    have HR3 : Hid (r = if validL (L a9) = false then 5 else if 65536 < a9.size ∨ 65536 < a10.length then 10 else keysE [] ks) := by
      unfold Hid
      rw [HR2.out, HQ.out, if_neg]
      rw [decide_eq_true_eq]
      exact fun h => ha h.1
    have HX4 := HX2
    have HB4 := HB2
    have HZ4 := HZ2
    clear HR2 HQ ha HX2 HB2 HZ2 HV5

    have HV3 := HV3
    generalize validL (L a9) = q3 at *
    cases q3 with
    | false =>
      have HF : Hid (r = 5) := by unfold Hid; rw [HR3.out, if_pos rfl]
      clear HR3
      go_wp2_with fail
      refine (HV3.out _).mono ?_
      rintro e w9 ⟨rfl, hb⟩
      have hbw9 := HB4.out.trans (hb.mono HB4.out.size)
      go_wp2_with fail
      go_ret
      exact ⟨ri (by rw [HF.out]; rfl), hbw9⟩
    | true =>
    have HR4 := Lib.hid (HR3.out.trans (if_neg (by decide)))
    clear HR3
    go_wp2_with fail
    refine (HV3.out _).mono ?_
    rintro e w9 ⟨rfl, hb⟩
    have hbw9 := HB4.out.trans (hb.mono HB4.out.size)
    have HX9 := Lib.hid ((hb.block _ HZ4.out).trans HX4.out)
    have HZ9 := Lib.hid (Nat.lt_of_lt_of_le HZ4.out hb.size)
    clear x0 x1 x2 x3 x4 x5 x6 x7 x8 x9 x10 x11 x12 xf HX4 hb HB4 HZ4 HV3
    obtain ⟨⟨x0, x1, x2, x3, x4, x5, x6, x7, x8, x9, x10, x11, x12⟩, xf⟩ := box13 HX9.out
    by_cases h1 : 65536 < a9.size
    · have HF : Hid (r = 10) := by unfold Hid; rw [HR4.out, if_pos (.inl h1)]
      have hq : ((65536 : Int) < a9.size) = True := eq_true (by omega)
      clear HR4 h1
      go_wp2_with fail
      go_ret
      exact ⟨ri (by rw [HF.out]; rfl), hbw9⟩
    have hq1 : ((65536 : Int) < a9.size) = False := eq_false (by omega)
    by_cases h2 : 65536 < a10.length
    · have HF : Hid (r = 10) := by unfold Hid; rw [HR4.out, if_pos (.inr h2)]
      have hq : ((65536 : Int) < a10.length) = True := eq_true (by omega)
      clear HR4 h1 h2
      go_wp2_with fail
      go_ret
      exact ⟨ri (by rw [HF.out]; rfl), hbw9⟩
    have hq2 : ((65536 : Int) < a10.length) = False := eq_false (by omega)
    have HF : Hid (r = keysE [] ks) := by unfold Hid; rw [HR4.out, if_neg (by omega)]
    clear HR4 h1 h2
    go_wp2_with fail
    refine (HKY.out _ hbw9).mono ?_
    rintro e w10 ⟨rfl, hb⟩
    have hbw10 := hbw9.trans (hb.mono hbw9.size)
    go_wp2_with fail
    go_ret
    exact ⟨ri (by rw [HF.out]), hbw10⟩

  case pos =>
    subst ha
    have HV5 := HV5
    generalize timeB a5 a6 a7 a8 = q5 at *
    cases q5 with
    | false =>
      have HF : Hid (r = 2) := by unfold Hid; rw [HR2.out, HQ.out, if_pos (by decide)]
      have HBW := HB2
      clear HR2 HQ
      go_wp2_with fail
      refine (HV5.out _).mono ?_
      rintro e w9 ⟨rfl, hb⟩
      have hbw9 := HBW.out.trans (hb.mono HBW.out.size)
      go_wp2_with fail
      go_ret
      exact ⟨ri (by rw [HF.out]; rfl), hbw9⟩
    | true =>
    have HR3 : Hid (r = if validL (L a9) = false then 5 else if 65536 < a9.size ∨ 65536 < a10.length then 10 else keysE [] ks) := by
      unfold Hid
      rw [HR2.out, HQ.out, if_neg (by decide)]
    clear HR2 HQ
    go_wp2_with fail
    refine (HV5.out _).mono ?_
    rintro e w3 ⟨rfl, hb⟩
    have HB4 := Lib.hid (HB2.out.trans (hb.mono HB2.out.size))
    have HX4 := Lib.hid ((hb.block _ HZ2.out).trans HX2.out)
    have HZ4 := Lib.hid (Nat.lt_of_lt_of_le HZ2.out hb.size)
    clear x0 x1 x2 x3 x4 x5 x6 x7 x8 x9 x10 x11 x12 xf HX2 hb HB2 HZ2 HV5
    obtain ⟨⟨x0, x1, x2, x3, x4, x5, x6, x7, x8, x9, x10, x11, x12⟩, xf⟩ := box13 HX4.out

    have HV3 := HV3
    generalize validL (L a9) = q3 at *
    cases q3 with
    | false =>
      have HF : Hid (r = 5) := by unfold Hid; rw [HR3.out, if_pos rfl]
      clear HR3
      go_wp2_with fail
      refine (HV3.out _).mono ?_
      rintro e w9 ⟨rfl, hb⟩
      have hbw9 := HB4.out.trans (hb.mono HB4.out.size)
      go_wp2_with fail
      go_ret
      exact ⟨ri (by rw [HF.out]; rfl), hbw9⟩
    | true =>
    have HR4 := Lib.hid (HR3.out.trans (if_neg (by decide)))
    clear HR3
    go_wp2_with fail
    refine (HV3.out _).mono ?_
    rintro e w9 ⟨rfl, hb⟩
    have hbw9 := HB4.out.trans (hb.mono HB4.out.size)
    have HX9 := Lib.hid ((hb.block _ HZ4.out).trans HX4.out)
    have HZ9 := Lib.hid (Nat.lt_of_lt_of_le HZ4.out hb.size)
    clear x0 x1 x2 x3 x4 x5 x6 x7 x8 x9 x10 x11 x12 xf HX4 hb HB4 HZ4 HV3
    obtain ⟨⟨x0, x1, x2, x3, x4, x5, x6, x7, x8, x9, x10, x11, x12⟩, xf⟩ := box13 HX9.out
    by_cases h1 : 65536 < a9.size
    · have HF : Hid (r = 10) := by unfold Hid; rw [HR4.out, if_pos (.inl h1)]
      have hq : ((65536 : Int) < a9.size) = True := eq_true (by omega)
      clear HR4 h1
      go_wp2_with fail
      go_ret
      exact ⟨ri (by rw [HF.out]; rfl), hbw9⟩
    have hq1 : ((65536 : Int) < a9.size) = False := eq_false (by omega)
    by_cases h2 : 65536 < a10.length
    · have HF : Hid (r = 10) := by unfold Hid; rw [HR4.out, if_pos (.inr h2)]
      have hq : ((65536 : Int) < a10.length) = True := eq_true (by omega)
      clear HR4 h1 h2
      go_wp2_with fail
      go_ret
      exact ⟨ri (by rw [HF.out]; rfl), hbw9⟩
    have hq2 : ((65536 : Int) < a10.length) = False := eq_false (by omega)
    have HF : Hid (r = keysE [] ks) := by unfold Hid; rw [HR4.out, if_neg (by omega)]
    clear HR4 h1 h2
    go_wp2_with fail
    refine (HKY.out _ hbw9).mono ?_
    rintro e w10 ⟨rfl, hb⟩
    have hbw10 := hbw9.trans (hb.mono hbw9.size)
    go_wp2_with fail
    go_ret
    exact ⟨ri (by rw [HF.out]), hbw10⟩

end Go.Proofs.YtlnpfpjncnkekaaGreatDoor

namespace Go.Proofs.YtlnpfpjncnkekaaGreatDoor
open Go.RowKit
set_option maxHeartbeats 4000000
set_option maxRecDepth 100000

theorem nod_kid (v : V) (i : Nat) (hi : i < (kidsV v).length) : nodV (kidsV v)[i] ≤ nodV v := by
  obtain ⟨h, l, f⟩ := v
  have key : ∀ (x : V), x ∈ kidsV (.mk h l f) → nodV x ≤ nodV (V.mk h l f) := by
    intro x hx
    rw [nodV_mk]
    rw [kidsV] at hx
    split at hx
    · obtain ⟨y, hy, rfl⟩ := List.mem_map.1 hx
      obtain ⟨j, hj, rfl⟩ := List.getElem_of_mem hy
      have := nodF_at f j hj
      omega
    · obtain ⟨j, hj, rfl⟩ := List.getElem_of_mem hx
      have := nodL_at l j hj
      omega
  exact key _ (List.getElem_mem hi)
theorem oneE_le (h : Hd) (nl : Nat) (ks : List ByteArray) : oneE h nl ks ≤ 10 := by
  have hk : ∀ (t s : List ByteArray), keysE s t ≤ 10 := by
    intro t
    induction t with
    | nil => intro s; rw [keysE]; omega
    | cons k t ih =>
      intro s
      rw [keysE]
      split
      · omega
      split
      · omega
      split
      · omega
      · exact ih _
  unfold oneE
  split
  · omega
  split
  · omega
  split
  · omega
  split
  · omega
  · exact hk _ _
theorem look7_any : ∀ (n : Nat) (v : V) (c : VC) (w : World) (d s : Int), SizeOf.sizeOf v ≤ n → nodV v ≤ 1000000 → 0 ≤ d → d ≤ 1000 → 0 ≤ s → s ≤ 65536 → RdV w c v →
    Calls Tryz.prog 15 #[aggV c, .int .i64 d, .int .i64 s] w fun e w' => e = .returned (.tuple #[.int .i64 (lookV v d s).1, .int .i64 ((lookV v d s).2 : Nat)]) ∧ Below w.heap.size w w' := by
  intro n
  induction n with
  | zero => intro v c w d s hn; exfalso; cases v; rw [V.mk.sizeOf_spec] at hn; omega
  | succ n ih =>
    intro v c w d s hn hnod hd0 hd1 hs0 hs1 hv
    have IH := Lib.hid ih; clear ih
    have HV := Lib.hid hv
    obtain ⟨h, l, f⟩ := v
    have HONE := Lib.hid (fun w' (hb : Below w.heap.size w w') => one7_any h l f c w' (hv.stays hb))
    have HKID := Lib.hid (fun w' (hb : Below w.heap.size w w') => Kids7_any (.mk h l f) c w' hnod (hv.stays hb))
    obtain ⟨⟨a0, a1, a2, a3, a4, a5, a6, a7, a8, a9, a10⟩, b1, b2, b3, n1, n2, n3, m1, m2, m3, rfl⟩ := hv.forms
    have HSZ := Lib.hid (fun i hi => sz_kid (.mk h l f) i hi)
    have HND := Lib.hid (fun i hi => nod_kid (.mk h l f) i hi)
    have HN := Lib.hid hn
    have HNOD := Lib.hid hnod
    have HLE := Lib.hid (oneE_le h l.length (f.map (·.1)))
    obtain ⟨R, hR⟩ : ∃ R, R = lookV (.mk h l f) d s := ⟨_, rfl⟩
    rw [← hR]
    rw [lookV_mk] at hR
    have HR := Lib.hid hR
    clear hR hv hn hnod
    have hb1 : ∀ x, Below w.heap.size w (w.alloc x) := fun x => (Below.refl _ _).alloc (Nat.le_refl _) _
    have HB1 := Lib.hid hb1; clear hb1
    simp only [aggV] at HONE HKID ⊢
    by_cases h48 : 48 < d
    · have HF := Lib.hid (HR.out.trans (if_pos h48))
      clear HR
      go_enter Tryz.func15, Tryz.ntmps15
      go_wp2_with fail
      go_ret2
      exact ⟨rii (by rw [HF.out]) (by rw [HF.out]; rfl), HB1.out _⟩
    have HRa := Lib.hid (HR.out.trans (if_neg h48))
    clear HR
    by_cases h65 : 65536 ≤ s
    · have HF := Lib.hid (HRa.out.trans (if_pos h65))
      have hq : ((65536 : Int) ≤ s) = True := eq_true h65
      clear HRa h65
      go_enter Tryz.func15, Tryz.ntmps15
      go_wp2_with fail
      go_ret2
      exact ⟨rii (by rw [HF.out]) (by rw [HF.out]; rfl), HB1.out _⟩
    have HRb := Lib.hid (HRa.out.trans (if_neg h65))
    have hq : ((65536 : Int) ≤ s) = False := eq_false h65
    have HS1 : Hid (s < 65536) := by unfold Hid; omega
    clear HRa h65 hs1
    generalize oneE h l.length (f.map (·.1)) = e1 at *
    by_cases he : e1 = 0
    case neg =>
      have HF := Lib.hid (HRb.out.trans (if_pos he))
      have hqe : ((e1 : Int) != 0) = true := by rw [bne_iff_ne]; omega
      clear HRb he
      go_enter Tryz.func15, Tryz.ntmps15
      go_wp2_with fail
      refine (HONE.out _ (HB1.out _)).mono ?_
      rintro e w1 ⟨rfl, hb⟩
      obtain ⟨hbw, hx, hz⟩ := held13 hb
      clear hb hx
      go_wp2_with fail
      go_ret2
      exact ⟨rii (by rw [HF.out]) (by rw [HF.out]), hbw⟩
    case pos =>
    subst he
    have HRc : Hid (R = lookL (kidsV (.mk h l f)) (d + 1) (s + 1)) := by unfold Hid; rw [HRb.out, if_neg (by simp)]
    clear HRb
    have hw1 : IntKind.i64.wrap (s + 1) = s + 1 := IntWalk.i64_in _ ⟨by omega, by have := HS1.out; omega⟩
    have HS2 : Hid (s + 1 ≤ 65536) := by unfold Hid; have := HS1.out; omega
    go_enter Tryz.func15, Tryz.ntmps15
    go_wp2_with fail
    refine (HONE.out _ (HB1.out _)).mono ?_
    rintro e w1 ⟨rfl, hb⟩
    obtain ⟨hbw, hx, hz⟩ := held13 hb
    obtain ⟨⟨x0, x1, x2, x3, x4, x5, x6, x7, x8, x9, x10, x11, x12⟩, xf⟩ := box13 hx
    clear hb hx HONE
    go_wp2_with fail
    refine (HKID.out _ hbw).mono ?_
    rintro e w2 ⟨ka, kcap, lc, rfl, hsl, hel, hb2⟩
    have hbw2 := hbw.trans (hb2.mono hbw.size)
    obtain ⟨_, _, hka, hl1, ⟨hl2, _⟩, hl3, hl4⟩ := hsl
    injection hka with hka1 hka2 hka3
    subst hka1 hka3
    have HAT := Lib.hid hl4
    have HEL := Lib.hid hel
    clear x0 x1 x2 x3 x4 x5 x6 x7 x8 x9 x10 x11 x12 xf hb2 hl4 hel hl3 hbw HKID hz
    generalize kidsV (.mk h l f) = ks at *
    go_wp2_with fail
    clear hw1
    go_loopw [2, 10] (fun sv iv wr => ∃ (k : Nat) (s1 : Int), k ≤ ks.length ∧ iv = .int .i64 k ∧ sv = .int .i64 s1 ∧ 0 ≤ s1 ∧ Hid (s1 ≤ 65536) ∧ Hid (R = lookL (ks.drop k) (d + 1) s1) ∧ Hid (Below w2.heap.size w2 wr)) (fun _ iv _ => ks.length - (intOf iv).toNat)
    case atStart => exact ⟨0, s + 1, Nat.zero_le _, rfl, rfl, by omega, HS2.out, by rw [List.drop_zero]; exact HRc.out, Below.refl _ _⟩
    case round =>
      clear HRc HS2 HS1
      obtain ⟨k, s1, hk, rfl, rfl, hs10, HS3, HC, HBR⟩ := hrel
      by_cases hlt : k < ks.length
      case neg =>
        have HF : Hid (R = (s1, 0)) := by unfold Hid; rw [HC.out, List.drop_of_length_le (by omega), lookL]
        clear HC
        go_wp2_with fail
        go_ret2
        exact ⟨rii (by rw [HF.out]) (by rw [HF.out]; rfl), hbw2.trans (HBR.out.mono hbw2.size)⟩
      obtain ⟨g, o, rfl, hg, hat⟩ := HAT.out (by omega)
      have hrd := (HEL.out k hlt).stays HBR.out
      have hc13 := fun j hj => (HBR.out.cell hg).trans (hat k hlt j hj)
      have HIH := Lib.hid (IH.out ks[k] (lc k) wr (d + 1) s1 (by have := HSZ.out k hlt; have := HN.out; omega) (by have := HND.out k hlt; have := HNOD.out; omega) (by omega) (by omega) hs10 HS3.out hrd)
      have HS := Lib.hid (HC.out.trans (lookL_drop ks k hlt (d + 1) s1))
      have hbd := lookV_bd _ ks[k] (d + 1) s1 (Nat.le_refl _)
      have hfm := hrd.forms
      clear hat hrd HC
      generalize lookV ks[k] (d + 1) s1 = r2 at *
      obtain ⟨s2, e2⟩ := r2
      generalize lc k = c at *
      obtain ⟨⟨p0, p1, p2, p3, p4, p5, p6, p7, p8, p9, p10⟩, q1, q2, q3, n1, n2, n3, m1, m2, m3, rfl⟩ := hfm
      obtain ⟨c0, c1, c2, c3, c4, c5, c6, c7, c8, c9, c10, c11, c12⟩ := cells13 hc13
      simp only at c0 c1 c2 c3 c4 c5 c6 c7 c8 c9 c10 c11 c12 HIH hbd HS
      clear hc13
      have HBD : Hid (0 ≤ s2 ∧ s2 ≤ 65536) := by unfold Hid; have := HS3.out; omega
      clear hbd
      by_cases he : e2 = 0
      case neg =>
        have HF : Hid (R = (s2, e2)) := by unfold Hid; rw [HS.out, if_pos he]
        have hqe : ((e2 : Int) != 0) = true := by rw [bne_iff_ne]; omega
        clear HS he
        go_wp2_with fail
        refine HIH.out.mono ?_
        rintro e w4 ⟨rfl, hb5⟩
        have hb6 := HBR.out.trans (hb5.mono HBR.out.size)
        go_wp2_with fail
        go_ret2
        exact ⟨rii (by rw [HF.out]) (by rw [HF.out]), hbw2.trans (hb6.mono hbw2.size)⟩
      case pos =>
        subst he
        have HF : Hid (R = lookL (ks.drop (k + 1)) (d + 1) s2) := by unfold Hid; rw [HS.out, if_neg (by simp)]
        clear HS
        go_wp2_with fail
        refine HIH.out.mono ?_
        rintro e w4 ⟨rfl, hb5⟩
        have hb6 := HBR.out.trans (hb5.mono HBR.out.size)
        go_wp2_with fail
        exact ⟨⟨k + 1, s2, by omega, rfl, rfl, HBD.out.1, HBD.out.2, HF, hb6⟩, by simp [intOf]; omega⟩
theorem Check7_any (v : V) (c : VC) (w : World) (hn : nodV v ≤ 1000000) (hv : RdV w c v) :
    Calls Tryz.prog 7 #[aggV c] w fun e w' => e = .returned (.int .i64 (checkV v : Nat)) ∧ Below w.heap.size w w' := by
  obtain ⟨h, a1, a2, a3, n1, n2, n3, m1, m2, m3, rfl⟩ := hv.forms
  have HL := Lib.hid (fun w' (hb : Below w.heap.size w w') => look7_any _ v ⟨h, .slice a1 n1 m1, .slice a2 n2 m2, .slice a3 n3 m3⟩ w' 1 0 (Nat.le_refl _) hn (by decide) (by decide) (by decide) (by decide) (hv.stays hb))
  clear hv
  unfold checkV
  simp only [aggV] at HL ⊢
  generalize lookV v 1 0 = r at *
  have hb1 : ∀ x, Below w.heap.size w (w.alloc x) := fun x => (Below.refl _ _).alloc (Nat.le_refl _) _
  have HB1 := Lib.hid hb1; clear hb1
  go_enter Tryz.func7, Tryz.ntmps7
  go_wp2_with fail
  refine (HL.out _ (HB1.out _)).mono ?_
  rintro e w1 ⟨rfl, hb⟩
  obtain ⟨hbw, hx, hz⟩ := held13 hb
  clear hb hx
  go_wp2_with fail
  go_ret
  exact ⟨rfl, hbw⟩
end Go.Proofs.YtlnpfpjncnkekaaGreatDoor
