/- patch.Check, datakitref56.first, Check walked; the law PatchChecks. Conditions: strings of at most 10^9 bytes. -/
import Derived.Test.YthdninnjjmhpfaaGreatDoorVx1
import Derived.Test.YthdninnjjmhpfaaGreatDoorVd2
import Derived.Test.YthdninnjjmhpfaaGreatDoorTq
import Derived.Test.YthdninnjjmhpfaaGreatDoorLd
import Derived.Deep.DeepCutAuto
import Derived.Deep.CutBlock
import Derived.Test.YthdninnjjmhpfaaGreatDoorPv2
import Derived.Test.YthdninnjjmhpfaaGreatDoorTv
import Derived.Deep.AppendSrc
import Derived.Test.YthdninnjjmhpfaaGreatDoorOt
import Derived.Test.YthdninnjjmhpfaaGreatDoorTd
import Derived.Test.YthdninnjjmhpfaaGreatDoorPv3
import Derived.Test.YthdninnjjmhpfaaGreatDoorTm
import Derived.Deep.RegionWith
import Derived.Laws.CopyOwn
import Derived.Test.YthdninnjjmhpfaaGreatDoorTk
namespace Go.Proofs.YthdninnjjmhpfaaGreatDoor
open Go.RowKit
set_option maxHeartbeats 4000000
set_option maxRecDepth 100000

theorem vc_one {w : World} {S : Nat → Prop} {c : VC} {v : V} (h : RdI w S c v) : ∀ u ∈ c.cells, u.oneCell' = true := by
  intro u hu
  obtain ⟨h, b1, b2, b3, m1, m2, m3, o1, o2, o3, rfl⟩ := h.forms
  simp [VC.cells] at hu
  rcases hu with rfl | rfl | rfl | rfl | rfl | rfl | rfl | rfl | rfl | rfl | rfl | rfl | rfl <;> rfl
/-- Since the call began only new blocks were made and the count N was written, which is s now; the box of the value lies as it was laid. -/
structure CkW (w wr : World) (N : Nat) (s : Int) (X : Obj) : Prop where
  os : wr.os = w.os
  tape : wr.tape = w.tape
  output : wr.output = w.output
  size : w.heap.size < wr.heap.size
  block : ∀ k, k < w.heap.size → k ≠ N → wr.heap[k]? = w.heap[k]?
  n : wr.heap[N]? = some (.cells #[.int .i64 s] 3 (0, 0))
  b : wr.heap[w.heap.size]? = some X
  lt : N < w.heap.size
theorem CkW.below {w wr w2 : World} {N : Nat} {s : Int} {X : Obj} (h : CkW w wr N s X) (hb : Below wr.heap.size wr w2) : CkW w w2 N s X :=
  ⟨hb.os.trans h.os, hb.tape.trans h.tape, hb.output.trans h.output, Nat.lt_of_lt_of_le h.size hb.size, fun k hk hn => (hb.block k (Nat.lt_trans hk h.size)).trans (h.block k hk hn), (hb.block N (Nat.lt_trans h.lt h.size)).trans h.n, (hb.block _ h.size).trans h.b, h.lt⟩
/-- What a check hands back: the error; where there is none, the count. -/
def ChkPost (w : World) (N : Nat) (R : Int × Nat) (e : Ending) (w' : World) : Prop :=
  e = .returned (.int .i64 (R.2 : Nat)) ∧ w'.os = w.os ∧ w'.tape = w.tape ∧ w'.output = w.output ∧ w.heap.size ≤ w'.heap.size ∧ (∀ k, k < w.heap.size → k ≠ N → w'.heap[k]? = w.heap[k]?) ∧ ∃ s' : Int, w'.heap[N]? = some (.cells #[.int .i64 s'] 3 (0, 0)) ∧ (R.2 = 0 → s' = R.1)
theorem CkW.post {w wr : World} {N : Nat} {s : Int} {X : Obj} (h : CkW w wr N s X) {R : Int × Nat} {e : Int} (he : e = (R.2 : Nat)) (hs : R.2 = 0 → s = R.1) : ChkPost w N R (.returned (.int .i64 e)) wr :=
  ⟨by rw [he], h.os, h.tape, h.output, Nat.le_of_lt h.size, h.block, s, h.n, hs⟩
theorem CkW.upd {w wr w2 : World} {N : Nat} {s s2 : Int} {X : Obj} (h : CkW w wr N s X) (h1 : w2.os = wr.os) (h2 : w2.tape = wr.tape) (h3 : w2.output = wr.output) (h4 : wr.heap.size ≤ w2.heap.size) (h5 : ∀ k, k < wr.heap.size → k ≠ N → w2.heap[k]? = wr.heap[k]?) (h6 : w2.heap[N]? = some (.cells #[.int .i64 s2] 3 (0, 0))) : CkW w w2 N s2 X :=
  ⟨h1.trans h.os, h2.trans h.tape, h3.trans h.output, Nat.lt_of_lt_of_le h.size h4, fun k hk hn => (h5 k (Nat.lt_trans hk h.size) hn).trans (h.block k hk hn), h6, (h5 _ h.size (Nat.ne_of_gt h.lt)).trans h.b, h.lt⟩
theorem CkW.rd {w wr : World} {N : Nat} {s : Int} {X : Obj} (h : CkW w wr N s X) {c : VC} {v : V} (hv : RdI w (fun b => b < N) c v) : RdI wr (fun b => b < N) c v :=
  hv.kept (fun b hb hb' => h.block b hb' (Nat.ne_of_lt hb)) (Nat.le_of_lt h.size)
theorem CkW.sl {w wr : World} {N : Nat} {s : Int} {X : Obj} (h : CkW w wr N s X) {v : Value} {n size : Nat} {c : Nat → List Value} (hs : Sl w v n size c) (hb : BlkIn (fun b => b < N) v) : Sl wr v n size c :=
  hs.kept hb (fun b hb hb' => h.block b hb' (Nat.ne_of_lt hb)) (Nat.le_of_lt h.size)
theorem CkW.cell {w wr : World} {N : Nat} {s : Int} {X : Obj} (h : CkW w wr N s X) : wr.cell? ⟨N, 0, none⟩ = some (.int .i64 s) ∧ (∀ j, wr.frozen? ⟨N, j, none⟩ = false) :=
  ⟨(cell_of_row wr N 0 _ _ (0, 0) h.n).trans rfl, fun j => by simp [World.frozen?, h.n]⟩
/-- Without parts that the kind does not have, the kids are the list and the fields' values. -/
theorem kids_own {h : Hd} {l : List V} {f : List (ByteArray × V)} (ho : ownB h l.length f.length = true) : kidsV (.mk h l f) = l ++ f.map (·.2) := by
  unfold ownB at ho
  have ho := of_decide_eq_true ho
  rw [kidsV]
  split
  · rename_i h7
    have hl : l = [] := by
      rcases ho with ⟨_, _, _, _, _, _, _, h6, _⟩
      rcases h6 with h6 | h6
      · omega
      · exact List.length_eq_zero_iff.1 h6
    rw [hl, List.nil_append]
  · rename_i h7
    have hf : f = [] := by
      rcases ho with ⟨_, _, _, _, _, _, _, _, h8⟩
      rcases h8 with h8 | h8
      · exact absurd h8 h7
      · exact List.length_eq_zero_iff.1 h8
    rw [hf, List.map_nil, List.append_nil]
theorem lookL_app : ∀ (a b : List V) (d s : Int), lookL (a ++ b) d s = if (lookL a d s).2 ≠ 0 then lookL a d s else lookL b d (lookL a d s).1
  | [], b, d, s => by rw [List.nil_append, lookL]; simp
  | x :: t, b, d, s => by
    rw [List.cons_append, lookL, lookL]
    by_cases hc : (lookV x d s).2 ≠ 0
    · rw [if_pos hc, if_pos hc, if_pos hc]
    · rw [if_neg hc, if_neg hc]
      exact lookL_app t b d _
/-- What is asked of the number and the time, by kind. -/
theorem one_own (h : Hd) (nl : Nat) (ks : List ByteArray) (ho : ownB h nl ks.length = true) : oneE h nl ks =
    if (h.kind = 2 ∧ decB h.neg (L h.ds) h.exp = false) ∨ (h.kind = 3 ∧ timeB h.tk h.day h.nano h.off = false) then 2
    else if h.kind = 4 ∧ validL (L h.text) = false then 5 else if 65536 < h.text.size ∨ 65536 < h.bytes.length then 10 else keysE [] ks := by
  have hp := of_decide_eq_true (by unfold ownB at ho; exact ho)
  obtain ⟨_, _, _, h2, _, h4, _⟩ := hp
  unfold oneE
  rw [if_neg (by rw [ho]; decide)]
  have e1 : decB h.neg (L h.ds) h.exp = false ↔ (h.kind = 2 ∧ decB h.neg (L h.ds) h.exp = false) := by
    refine ⟨fun hd => ⟨?_, hd⟩, fun hd => hd.2⟩
    rcases h2 with h2 | ⟨n1, n2, n3⟩
    · exact h2
    · exfalso
      unfold decB at hd
      rw [if_pos (List.length_eq_zero_iff.1 ((L_len h.ds).trans n2)), n1, n3] at hd
      exact absurd hd (by decide)
  have e2 : validL (L h.text) = false ↔ (h.kind = 4 ∧ validL (L h.text) = false) := by
    refine ⟨fun hd => ⟨?_, hd⟩, fun hd => hd.2⟩
    rcases h4 with h4 | h4
    · exact h4
    · exfalso
      rw [List.length_eq_zero_iff.1 ((L_len h.text).trans h4)] at hd
      exact absurd hd (by decide)
  by_cases a1 : decB h.neg (L h.ds) h.exp = false ∨ (h.kind = 3 ∧ timeB h.tk h.day h.nano h.off = false)
  · have a1' : (h.kind = 2 ∧ decB h.neg (L h.ds) h.exp = false) ∨ (h.kind = 3 ∧ timeB h.tk h.day h.nano h.off = false) := a1.imp e1.1 id
    rw [if_pos a1, if_pos a1']
  · have a1' : ¬ ((h.kind = 2 ∧ decB h.neg (L h.ds) h.exp = false) ∨ (h.kind = 3 ∧ timeB h.tk h.day h.nano h.off = false)) := fun hh => a1 (hh.imp e1.2 id)
    rw [if_neg a1, if_neg a1']
    by_cases a2 : validL (L h.text) = false
    · rw [if_pos a2, if_pos (e2.1 a2)]
    · have a2' : ¬ (h.kind = 4 ∧ validL (L h.text) = false) := fun hh => a2 hh.2
      rw [if_neg a2, if_neg a2']
end Go.Proofs.YthdninnjjmhpfaaGreatDoor

namespace Go.Proofs.YthdninnjjmhpfaaGreatDoor
open Go.RowKit
set_option maxHeartbeats 8000000
set_option maxRecDepth 100000

theorem stVk : StT Tryz.prog 30 13 := ⟨by kernel_rfl, by kernel_rfl⟩
theorem stFk : StT Tryz.prog 67 14 := ⟨by kernel_rfl, by kernel_rfl⟩
theorem ck0 {w w1 : World} {N : Nat} {s1 : Int} {X : Obj} {u : Value} (hW : (w.setCell ⟨N, 0, none⟩ (.int .i64 s1)).alloc X = w1) (hN : w.heap[N]? = some (.cells #[u] 3 (0, 0))) : CkW w w1 N s1 X := by
  have hlt : N < w.heap.size := (Array.getElem?_eq_some_iff.1 hN).1
  have hz : (w.setCell ⟨N, 0, none⟩ (.int .i64 s1)).heap.size = w.heap.size := by simp
  subst hW
  refine ⟨rfl, rfl, rfl, by simp, fun k hk hn => ?_, ?_, ?_, hlt⟩
  · rw [heap_alloc_old _ X (by rw [hz]; exact hk), heap_setCell_other _ _ k _ hn]
  · rw [heap_alloc_old _ X (by rw [hz]; exact hlt), heap_setCell_same _ N 0 _ _ _ hN]
    rfl
  · have := heap_alloc_new (w.setCell ⟨N, 0, none⟩ (.int .i64 s1)) X
    rw [hz] at this
    exact this
theorem check_any : ∀ (m : Nat) (v : V) (c : VC) (w : World) (d s : Int) (N : Nat), SizeOf.sizeOf v ≤ m → nodV v ≤ 1000000 → 0 ≤ d → d ≤ 1000 → 0 ≤ s → s ≤ 65536 → RdI w (fun b => b < N) c v → w.heap[N]? = some (.cells #[.int .i64 s] 3 (0, 0)) →
    Calls Tryz.prog 81 #[aggV c, .int .i64 d, .pointer (some ⟨N, 0, none⟩)] w (ChkPost w N (lookV v d s)) := by
  intro m
  induction m with
  | zero => intro v c w d s N hn; exfalso; cases v; rw [V.mk.sizeOf_spec] at hn; omega
  | succ m ih =>
    intro v c w d s N hn hnod hd0 hd1 hs0 hs1 hv hN
    have IH := Lib.hid ih; clear ih
    cases hv with
    | mk h l f bv lv fv lc fc ok hB hl hL hf hK hF sb sl sf =>
    have HSL := Lib.hid (fun i hi => sz_l h l f i hi)
    have HSF := Lib.hid (fun i hi => sz_f h l f i hi)
    have HNL := Lib.hid (fun i hi => nodL_at l i hi)
    have HNF := Lib.hid (fun i hi => nodF_at f i hi)
    have hnod2 := hnod
    rw [nodV_mk] at hnod2
    have HND := Lib.hid hnod2
    have HFL : Hid (f.length ≤ 1000000) := by unfold Hid; have := nodF_len f; omega
    have HN := Lib.hid hn
    obtain ⟨R, hR⟩ : ∃ R, R = lookV (.mk h l f) d s := ⟨_, rfl⟩
    rw [← hR]
    rw [lookV_mk] at hR
    have HRX := Lib.hid hR
    clear hR hn hnod hnod2
    obtain ⟨ks, hks⟩ : ∃ ks, ks = f.map (·.1) := ⟨_, rfl⟩
    have hkl : ks.length = f.length := by rw [hks, List.length_map]
    rw [← hks] at HRX
    have HLS := Lib.hid hl
    have HFS := Lib.hid hf
    have HSBL := Lib.hid sl
    have HSBF := Lib.hid sf
    have HLi := Lib.hid hL
    have HFi := Lib.hid hF
    obtain ⟨ba, bcap, rfl, _⟩ := hB
    obtain ⟨la, lcap, rfl, hl1, ⟨hl2, _⟩, hl3, hl4⟩ := hl
    obtain ⟨fa, fcap, rfl, hf1, ⟨hf2, _⟩, hf3, hf4⟩ := hf
    have HXT := Lib.hid (fun w => extra7_any h (.slice ba h.bytes.length bcap) (.slice la l.length lcap) (.slice fa f.length fcap) h.bytes.length l.length f.length bcap lcap fcap ba la fa w rfl rfl rfl rfl)
    have HDV := Lib.hid (fun w => decValid_any h.neg h.ds h.exp w ok.ds)
    have HTV := Lib.hid (fun w => momValid_any h.tk h.day h.nano h.off w)
    have HUV := Lib.hid (fun w => Valid_any h.text w (by have := ok.text; omega))
    have HKY : Hid (∀ w', Sl w' (.slice fa f.length fcap) f.length 14 (fun i => .string (f.getD i (⟨#[]⟩, V.mk h l f)).1 :: (fc i).cells) → Calls Tryz.prog 117 #[.slice fa f.length fcap] w' fun e w2 => e = .returned (.int .i64 (keysE [] ks)) ∧ Below w'.heap.size w' w2) := by
      intro w' h1
      rw [← hkl] at h1 ⊢
      refine keys_any _ ks _ w' h1 (by have := HFL.out; omega) (fun i hi => ?_) (fun i hi => ?_)
      · have hi' : i < f.length := by omega
        have e : (f.getD i (⟨#[]⟩, V.mk h l f)).1 = ks[i] := by
          simp only [hks, List.getElem_map]
          rw [List.getD_eq_getElem?_getD, List.getElem?_eq_getElem hi']
          rfl
        rw [e]
        refine ⟨rfl, rfl, fun u hu => ?_⟩
        rcases List.mem_cons.1 hu with rfl | hu
        · rfl
        · exact vc_one (hF i hi') u hu
      · have hi' : i < f.length := by omega
        simp only [hks, List.getElem_map]
        exact hK i hi'
    have HOWN := Lib.hid (ownB_xtr h l.length f.length)
    have HONE := Lib.hid (fun ho => one_own h l.length ks (by rw [hkl]; exact ho))
    have HKID := Lib.hid (fun ho => kids_own (h := h) (l := l) (f := f) ho)
    have hone6 : ownB h l.length f.length = false → oneE h l.length ks = 6 := fun ho => by unfold oneE; rw [if_pos (by rw [hkl]; exact ho)]
    have HONE6 := Lib.hid hone6
    have hbd1 := ok.text
    have hbd2 := ok.bytes
    have hNlt : N < w.heap.size := (Array.getElem?_eq_some_iff.1 hN).1
    have xN : w.cell? ⟨N, 0, none⟩ = some (.int .i64 s) := (cell_of_row w N 0 _ _ (0, 0) hN).trans rfl
    have fN : w.frozen? ⟨N, 0, none⟩ = false := by simp [World.frozen?, hN]
    have HNH := Lib.hid hN
    clear hl4 hf4 hL hF hl3 hf3 hK ok hN hks hkl hone6 sb sl sf
    obtain ⟨a0, a1, a2, a3, a4, a5, a6, a7, a8, a9, a10⟩ := h
    simp only [aggV] at HXT ⊢
    simp only [] at HDV HTV HUV hbd1 hbd2
    go_enter Tryz.func81, Tryz.ntmps81
    go_upto_region 2 with fail
    generalize hW : World.alloc (World.setCell _ _ _) _ = w1
    have hck := ck0 hW HNH.out
    clear hW xN fN HNH hNlt
    obtain ⟨X, hXe, hck⟩ : ∃ X, X = _ ∧ CkW w w1 N (s + 1) X := ⟨_, rfl, hck⟩
    have HXE := Lib.hid hXe
    have HCK := Lib.hid hck
    obtain ⟨xn, xnf⟩ := hck.cell
    clear hXe hck
    obtain ⟨⟨x0, x1, x2, x3, x4, x5, x6, x7, x8, x9, x10, x11, x12⟩, xf⟩ := box13 (HCK.out.b.trans (congrArg some HXE.out))
    by_cases h48 : 48 < d
    · have HF := Lib.hid (HRX.out.trans (if_pos h48))
      clear HRX
      go_wp2_with fail
      go_ret
      exact HCK.out.post (R := R) (by rw [HF.out]; rfl) (by rw [HF.out]; intro h; simp at h)
    have HRa := Lib.hid (HRX.out.trans (if_neg h48))
    clear HRX
    by_cases h65 : 65536 ≤ s
    · have HF := Lib.hid (HRa.out.trans (if_pos h65))
      have hq : ((65536 : Int) < s + 1) = True := eq_true (by omega)
      clear HRa h65
      go_wp2_with fail
      go_ret
      exact HCK.out.post (R := R) (by rw [HF.out]; rfl) (by rw [HF.out]; intro h; simp at h)
    have HRb := Lib.hid (HRa.out.trans (if_neg h65))
    have hq65 : ((65536 : Int) < s + 1) = False := eq_false (by omega)
    have HS1 : Hid (s < 65536) := by unfold Hid; omega
    clear HRa h65 hs1
    by_cases hk0 : a0 < 0
    · have HF : Hid (R = (s, 6)) := by
        unfold Hid
        have := HONE6.out (by rw [HOWN.out, decide_eq_false (by dsimp only; omega)]; rfl)
        rw [HRb.out, this]
        rfl
      clear HRb
      go_wp2_with fail
      go_ret
      exact HCK.out.post (R := R) (by rw [HF.out]; rfl) (by rw [HF.out]; intro h; simp at h)
    by_cases hk8 : 8 ≤ a0
    · have HF : Hid (R = (s, 6)) := by
        unfold Hid
        have := HONE6.out (by rw [HOWN.out, decide_eq_false (by dsimp only; omega)]; rfl)
        rw [HRb.out, this]
        rfl
      clear HRb
      go_wp2_with fail
      go_ret
      exact HCK.out.post (R := R) (by rw [HF.out]; rfl) (by rw [HF.out]; intro h; simp at h)
    have HKR : Hid (decide (0 ≤ a0 ∧ a0 ≤ 7) = true) := decide_eq_true (by omega)
    go_wp2_with fail
    refine (HXT.out _).mono ?_
    rintro e w2 ⟨rfl, hb⟩
    have HCK2 := Lib.hid (HCK.out.below hb)
    clear hb xn xnf HCK HXT
    clear x0 x1 x2 x3 x4 x5 x6 x7 x8 x9 x10 x11 x12 xf
    obtain ⟨⟨x0, x1, x2, x3, x4, x5, x6, x7, x8, x9, x10, x11, x12⟩, xf⟩ := box13 (HCK2.out.b.trans (congrArg some HXE.out))
    generalize xtrB _ l.length f.length = qx at *
    cases qx with
    | true =>
      have HF : Hid (R = (s, 6)) := by
        unfold Hid
        have := HONE6.out (by rw [HOWN.out, HKR.out]; rfl)
        rw [HRb.out, this]
        rfl
      clear HRb
      go_wp2_with fail
      go_ret
      exact HCK2.out.post (R := R) (by rw [HF.out]; rfl) (by rw [HF.out]; intro h; simp at h)
    | false =>
    have HO : Hid (ownB ⟨a0, a1, a2, a3, a4, a5, a6, a7, a8, a9, a10⟩ l.length f.length = true) := by unfold Hid; rw [HOWN.out, HKR.out]; rfl
    have HONE2 := Lib.hid (HONE.out HO.out)
    have HKID2 := Lib.hid (HKID.out HO.out)
    clear HONE HKID HONE6 HOWN HKR
    rw [HONE2.out, HKID2.out] at HRb
    clear HONE2 HKID2
    obtain ⟨q8, hq8⟩ : ∃ q : Bool, q = decide ((a0 = 2 ∧ decB a2 (L a3) a4 = false) ∨ (a0 = 3 ∧ timeB a5 a6 a7 a8 = false)) := ⟨_, rfl⟩
    have HQ8 : Hid (True → q8 = decide ((a0 = 2 ∧ decB a2 (L a3) a4 = false) ∨ (a0 = 3 ∧ timeB a5 a6 a7 a8 = false))) := fun _ => hq8
    clear hq8
    go_upto_region 8 with fail
    go_cut [40] (fun v wx => v = .bool q8 ∧ CkW w wx N (s + 1) X)
    case first =>
      clear HRb
      by_cases e2 : a0 = 2
      · have e3 : ¬ a0 = 3 := by omega
        have HQ9 : Hid (True → q8 = !decB a2 (L a3) a4) := fun _ => by rw [HQ8.out trivial]; simp [e2]
        have hq2 : (a0 == 2) = true := by rw [beq_iff_eq]; exact e2
        have hq3 : (a0 == 3) = false := by rw [beq_eq_false_iff_ne]; exact e3
        clear HQ8 e2 e3
        go_wp2_with fail
        refine (HDV.out _).mono ?_
        rintro e w3 ⟨rfl, hb⟩
        have HCK3 := Lib.hid (HCK2.out.below hb)
        clear hb
        clear x0 x1 x2 x3 x4 x5 x6 x7 x8 x9 x10 x11 x12 xf
        obtain ⟨⟨x0, x1, x2, x3, x4, x5, x6, x7, x8, x9, x10, x11, x12⟩, xf⟩ := box13 (HCK3.out.b.trans (congrArg some HXE.out))
        generalize decB a2 (L a3) a4 = qd at *
        have HQ9 := HQ9
        cases qd
        all_goals
          have hq := HQ9.out trivial
          subst hq
          go_wp2_with fail
          go_meet
          exact ⟨rfl, HCK3.out⟩
      · have hq2 : (a0 == 2) = false := by rw [beq_eq_false_iff_ne]; exact e2
        by_cases e3 : a0 = 3
        · have HQ9 : Hid (True → q8 = !timeB a5 a6 a7 a8) := fun _ => by rw [HQ8.out trivial]; simp [e3]
          have hq3 : (a0 == 3) = true := by rw [beq_iff_eq]; exact e3
          clear HQ8 e2 e3
          go_wp2_with fail
          refine (HTV.out _).mono ?_
          rintro e w3 ⟨rfl, hb⟩
          have HCK3 := Lib.hid (HCK2.out.below hb)
          clear hb
          clear x0 x1 x2 x3 x4 x5 x6 x7 x8 x9 x10 x11 x12 xf
          obtain ⟨⟨x0, x1, x2, x3, x4, x5, x6, x7, x8, x9, x10, x11, x12⟩, xf⟩ := box13 (HCK3.out.b.trans (congrArg some HXE.out))
          generalize timeB a5 a6 a7 a8 = qd at *
          have HQ9 := HQ9
          cases qd
          all_goals
            have hq := HQ9.out trivial
            subst hq
            go_wp2_with fail
            go_meet
            exact ⟨rfl, HCK3.out⟩
        · have hq3 : (a0 == 3) = false := by rw [beq_eq_false_iff_ne]; exact e3
          have hq : q8 = false := by rw [HQ8.out trivial]; exact decide_eq_false (fun hh => hh.elim (fun h => e2 h.1) (fun h => e3 h.1))
          subst hq
          clear HQ8 e2 e3
          go_wp2_with fail
          go_meet
          exact ⟨rfl, HCK2.out⟩
    case rest =>
      obtain ⟨rfl, HCK3⟩ := hcut
      replace HCK3 := Lib.hid HCK3
      clear x0 x1 x2 x3 x4 x5 x6 x7 x8 x9 x10 x11 x12 xf
      obtain ⟨⟨x0, x1, x2, x3, x4, x5, x6, x7, x8, x9, x10, x11, x12⟩, xf⟩ := box13 (HCK3.out.b.trans (congrArg some HXE.out))
      cases q8 with
      | true =>
        have HF : Hid (R = (s, 2)) := by
          unfold Hid
          have h := of_decide_eq_true (HQ8.out trivial).symm
          rw [HRb.out, if_pos h]
          rfl
        clear HRb HQ8
        go_wp2_with fail
        go_ret
        exact HCK3.out.post (R := R) (by rw [HF.out]; rfl) (by rw [HF.out]; intro h; simp at h)
      | false =>
        have h := of_decide_eq_false (HQ8.out trivial).symm
        have HRc := HRb.out
        rw [if_neg h] at HRc
        replace HRc := Lib.hid HRc
        clear h HRb HQ8
        obtain ⟨q10, hq10⟩ : ∃ q : Bool, q = decide (a0 = 4 ∧ validL (L a9) = false) := ⟨_, rfl⟩
        have HQ10 : Hid (True → q10 = decide (a0 = 4 ∧ validL (L a9) = false)) := fun _ => hq10
        clear hq10
        go_upto_region 10 with fail
        go_cut [61] (fun v wx => v = .bool q10 ∧ CkW w wx N (s + 1) X)
        case first =>
          clear HRc
          by_cases e4 : a0 = 4
          · have HQ9 : Hid (True → q10 = !validL (L a9)) := fun _ => by rw [HQ10.out trivial]; simp [e4]
            have hq4 : (a0 == 4) = true := by rw [beq_iff_eq]; exact e4
            clear HQ10 e4
            go_wp2_with fail
            refine (HUV.out _).mono ?_
            rintro e w3 ⟨rfl, rfl⟩
            generalize validL (L a9) = qd at *
            have HQ9 := HQ9
            cases qd
            all_goals
              have hq := HQ9.out trivial
              subst hq
              go_wp2_with fail
              go_meet
              exact ⟨rfl, HCK3.out⟩
          · have hq4 : (a0 == 4) = false := by rw [beq_eq_false_iff_ne]; exact e4
            have hq : q10 = false := by rw [HQ10.out trivial]; exact decide_eq_false (fun h => e4 h.1)
            subst hq
            clear HQ10 e4
            go_wp2_with fail
            go_meet
            exact ⟨rfl, HCK3.out⟩
        case rest =>
          obtain ⟨rfl, HCK4⟩ := hcut
          replace HCK4 := Lib.hid HCK4
          clear HCK3
          clear x0 x1 x2 x3 x4 x5 x6 x7 x8 x9 x10 x11 x12 xf
          obtain ⟨⟨x0, x1, x2, x3, x4, x5, x6, x7, x8, x9, x10, x11, x12⟩, xf⟩ := box13 (HCK4.out.b.trans (congrArg some HXE.out))
          cases q10 with
          | true =>
            have HF : Hid (R = (s, 5)) := by
              unfold Hid
              have h := of_decide_eq_true (HQ10.out trivial).symm
              rw [HRc.out, if_pos h]
              rfl
            clear HRc HQ10
            go_wp2_with fail
            go_ret
            exact HCK4.out.post (R := R) (by rw [HF.out]; rfl) (by rw [HF.out]; intro h; simp at h)
          | false =>
            have h := of_decide_eq_false (HQ10.out trivial).symm
            have HRd := HRc.out
            rw [if_neg h] at HRd
            replace HRd := Lib.hid HRd
            clear h HRc HQ10
            by_cases hz1 : 65536 < a9.size
            · have HF : Hid (R = (s, 10)) := by
                unfold Hid
                rw [HRd.out, if_pos (Or.inl hz1)]
                rfl
              have hz : ((65536 : Int) < (a9.size : Int)) = True := eq_true (by omega)
              clear HRd hz1
              go_wp2_with fail
              go_ret
              exact HCK4.out.post (R := R) (by rw [HF.out]; rfl) (by rw [HF.out]; intro h; simp at h)
            by_cases hz2 : 65536 < a10.length
            · have HF : Hid (R = (s, 10)) := by
                unfold Hid
                rw [HRd.out, if_pos (Or.inr hz2)]
                rfl
              have hz : ((65536 : Int) < (a9.size : Int)) = False := eq_false (by omega)
              have hz' : ((65536 : Int) < (a10.length : Int)) = True := eq_true (by omega)
              clear HRd hz1 hz2
              go_wp2_with fail
              go_ret
              exact HCK4.out.post (R := R) (by rw [HF.out]; rfl) (by rw [HF.out]; intro h; simp at h)
            have hz : ((65536 : Int) < (a9.size : Int)) = False := eq_false (by omega)
            have hz' : ((65536 : Int) < (a10.length : Int)) = False := eq_false (by omega)
            have HRe := HRd.out
            rw [if_neg (not_or.2 ⟨hz1, hz2⟩)] at HRe
            replace HRe := Lib.hid HRe
            clear HRd hz1 hz2
            go_wp2_with fail
            refine (HKY.out _ (HCK4.out.sl HFS.out HSBF.out)).mono ?_
            rintro e w3 ⟨rfl, hb⟩
            have HCK5 := Lib.hid (HCK4.out.below hb)
            clear hb HCK4
            clear x0 x1 x2 x3 x4 x5 x6 x7 x8 x9 x10 x11 x12 xf
            obtain ⟨⟨x0, x1, x2, x3, x4, x5, x6, x7, x8, x9, x10, x11, x12⟩, xf⟩ := box13 (HCK5.out.b.trans (congrArg some HXE.out))
            generalize keysE [] ks = kE at *
            by_cases hkE : kE ≠ 0
            · have HF : Hid (R = (s, kE)) := HRe.out.trans (if_pos hkE)
              have hq : ((kE : Int) == 0) = false := by rw [beq_eq_false_iff_ne]; omega
              have hq' : ((kE : Int) != 0) = true := by rw [bne_iff_ne]; omega
              clear HRe hkE
              go_wp2_with fail
              go_ret
              exact HCK5.out.post (R := R) (by rw [HF.out]) (by rw [HF.out]; intro h; exfalso; simp at h; subst h; simp at hq')
            have hkE0 : kE = 0 := by omega
            have HRf : Hid (R = lookL (l ++ f.map (·.2)) (d + 1) (s + 1)) := HRe.out.trans (if_neg hkE)
            clear HRe hkE
            subst hkE0
            go_wp2_with fail
            have HS2 : Hid (s + 1 ≤ 65536) := by unfold Hid; have := HS1.out; omega
            clear x0 x1 x2 x3 x4 x5 x6 x7 x8 x9 x10 x11 x12 xf
            clear HUV HKY HDV HTV hz hz' hbd1 hbd2
            go_loopw [91] (fun iv wr => ∃ (k : Nat) (s1 : Int), k ≤ l.length ∧ iv = .int .i64 k ∧ 0 ≤ s1 ∧ Hid (s1 ≤ 65536) ∧ Hid (R = lookL ((l ++ f.map (·.2)).drop k) (d + 1) s1) ∧ Hid (CkW w wr N s1 X)) (fun iv _ => l.length - (intOf iv).toNat)
            case atStart => exact ⟨0, s + 1, Nat.zero_le _, rfl, by omega, HS2.out, by rw [List.drop_zero]; exact HRf.out, HCK5.out⟩
            case round =>
              clear HRf HCK5
              obtain ⟨k, s1, hk, rfl, hs1, HS1b, HR, HCW⟩ := hrel
              obtain ⟨⟨x0, x1, x2, x3, x4, x5, x6, x7, x8, x9, x10, x11, x12⟩, xf⟩ := box13 (HCW.out.b.trans (congrArg some HXE.out))
              by_cases hlt : k < l.length
              case pos =>
                obtain ⟨_, _, hka, _, _, _, h4⟩ := HCW.out.sl HLS.out HSBL.out
                injection hka with e1 e2 e3
                subst e1 e3
                obtain ⟨g, o, rfl, hg, hat⟩ := h4 (by omega)
                have hrd := HCW.out.rd (HLi.out k hlt)
                have hc13 : Hid (∀ j, j < 13 → wr.cell? ⟨g, o + k * 13 + j, none⟩ = (lc k).cells[j]?) := fun j hj => hat k hlt j hj
                have HONEc := Lib.hid (vc_one hrd)
                clear h4 hat
                go_wp2_with (first
                  | refine wpl_load rfl rfl stVk rfl (cells_len _) hc13.out ?_
                  | (refine wpl_new rfl rfl stVk rfl (cs := (lc k).cells) rfl (cells_len _) HONEc.out rfl rfl rfl ?_; generalize hW1 : World.alloc wr _ = w1; obtain ⟨ha1, _, hz1, hb1⟩ := alloc_of' hW1; have HA1 := Lib.hid ha1; have HB1 := Lib.hid hb1; clear hW1 ha1 hb1)
                  | refine wpl_load rfl rfl stVk rfl (cells_len _) (fun j _ => by rw [Nat.zero_add, cell_of_row _ _ _ _ _ _ HA1.out, List.getElem?_toArray]) ?_)
                have HCW1 := HCW.out.below HB1.out
                have HIH := IH.out l[k] (lc k) w1 (d + 1) s1 N (by have := HSL.out k hlt; have := HN.out; omega) (by have := HNL.out k hlt; have := HND.out; omega) (by omega) (by omega) hs1 HS1b.out (HCW1.rd (HLi.out k hlt)) HCW1.n
                have HS := HR.out.trans (lookL_drop (l ++ f.map (·.2)) k (by rw [List.length_append]; omega) (d + 1) s1)
                rw [List.getElem_append_left hlt] at HS
                have HBD := Lib.hid (lookV_bd _ l[k] (d + 1) s1 (Nat.le_refl _))
                refine HIH.mono ?_
                rintro e w4 ⟨rfl, o1, o2, o3, hz4, hbl, s', hn', hs'⟩
                have HCW4 := Lib.hid (HCW1.upd o1 o2 o3 hz4 hbl hn')
                generalize lookV l[k] (d + 1) s1 = r2 at *
                obtain ⟨s2, e2⟩ := r2
                have HBD2 : Hid (0 ≤ s2 ∧ s2 ≤ 65536) := by unfold Hid; have := HBD.out; have := HS1b.out; simp only at *; omega
                have HSx := Lib.hid HS
                have HSP : Hid (e2 = 0 → s' = s2) := hs'
                clear HS HR HIH HCW HCW1 HBD hs' hn' hbl hz4 o1 o2 o3 HA1 HB1 hrd hc13 HONEc
                clear x0 x1 x2 x3 x4 x5 x6 x7 x8 x9 x10 x11 x12 xf
                obtain ⟨⟨x0, x1, x2, x3, x4, x5, x6, x7, x8, x9, x10, x11, x12⟩, xf⟩ := box13 (HCW4.out.b.trans (congrArg some HXE.out))
                by_cases he : e2 = 0
                case neg =>
                  have HF : Hid (R = (s2, e2)) := by unfold Hid; rw [HSx.out, if_pos he]
                  have hqe : ((e2 : Int) != 0) = true := by rw [bne_iff_ne]; omega
                  have HE := Lib.hid he
                  clear HSx he
                  go_wp2_with fail
                  go_ret
                  exact HCW4.out.post (R := R) (by rw [HF.out]) (by rw [HF.out]; intro h; exact absurd h HE.out)
                case pos =>
                  subst he
                  have hss := HSP.out rfl
                  subst hss
                  have HF : Hid (R = lookL ((l ++ f.map (·.2)).drop (k + 1)) (d + 1) s') := by unfold Hid; rw [HSx.out, if_neg (by simp)]
                  clear HSx HSP
                  go_wp2_with fail
                  exact ⟨⟨k + 1, s', by omega, rfl, HBD2.out.1, HBD2.out.2, HF, HCW4⟩, by simp [intOf]; omega⟩
              case neg =>
                have hkl : k = l.length := by omega
                subst hkl
                go_wp2_with fail
                clear x0 x1 x2 x3 x4 x5 x6 x7 x8 x9 x10 x11 x12 xf hlt hk
                go_loopw [107] (fun iv wq => ∃ (k : Nat) (s1 : Int), k ≤ f.length ∧ iv = .int .i64 k ∧ 0 ≤ s1 ∧ Hid (s1 ≤ 65536) ∧ Hid (R = lookL ((l ++ f.map (·.2)).drop (l.length + k)) (d + 1) s1) ∧ Hid (CkW w wq N s1 X)) (fun iv _ => f.length - (intOf iv).toNat)
                case atStart => exact ⟨0, s1, Nat.zero_le _, rfl, hs1, HS1b.out, HR.out, HCW.out⟩
                case round =>
                  clear HR HCW HS1b hs1
                  obtain ⟨k, s1, hk, rfl, hs1, HS1b, HR, HCW⟩ := hrel
                  obtain ⟨⟨x0, x1, x2, x3, x4, x5, x6, x7, x8, x9, x10, x11, x12⟩, xf⟩ := box13 (HCW.out.b.trans (congrArg some HXE.out))
                  by_cases hlt : k < f.length
                  case neg =>
                    have HF : Hid (R = (s1, 0)) := by unfold Hid; rw [HR.out, List.drop_of_length_le (by rw [List.length_append, List.length_map]; omega), lookL]
                    clear HR
                    go_wp2_with fail
                    go_ret
                    exact HCW.out.post (R := R) (by rw [HF.out]; rfl) (by rw [HF.out]; intro; rfl)
                  case pos =>
                    obtain ⟨_, _, hka, _, _, _, h4⟩ := HCW.out.sl HFS.out HSBF.out
                    injection hka with e1 e2 e3
                    subst e1 e3
                    obtain ⟨g, o, rfl, hg, hat⟩ := h4 (by omega)
                    have hrd := HCW.out.rd (HFi.out k hlt)
                    generalize hkx : (f.getD k (⟨#[]⟩, V.mk ⟨a0, a1, a2, a3, a4, a5, a6, a7, a8, a9, a10⟩ l f)).1 = kx at *
                    have hc14 : Hid (∀ j, j < 14 → wr.cell? ⟨g, o + k * 14 + j, none⟩ = (Value.string kx :: (fc k).cells)[j]?) := fun j hj => by rw [← hkx]; exact hat k hlt j hj
                    have HONEc : Hid (∀ u ∈ Value.string kx :: (fc k).cells, u.oneCell' = true) := fun u hu => by
                      rcases List.mem_cons.1 hu with rfl | hu
                      · rfl
                      · exact vc_one hrd u hu
                    clear h4 hat hkx
                    go_wp2_with (first
                      | refine wpl_load rfl rfl stFk rfl (by rw [List.length_cons, cells_len]) hc14.out ?_
                      | (refine wpl_new rfl rfl stFk rfl (cs := Value.string kx :: (fc k).cells) rfl (by rw [List.length_cons, cells_len]) HONEc.out rfl rfl rfl ?_; generalize hW1 : World.alloc wr _ = w1; obtain ⟨ha1, _, hz1, hb1⟩ := alloc_of' hW1; have HA1 := Lib.hid ha1; have HB1 := Lib.hid hb1; clear hW1 ha1 hb1)
                      | refine wpl_load rfl rfl stVk rfl (cells_len (fc k)) (fun j _ => by rw [cell_of_row _ _ _ _ _ _ HA1.out, List.getElem?_toArray, Nat.add_comm 1 j, List.getElem?_cons_succ]) ?_)
                    have HCW1 := HCW.out.below HB1.out
                    have HIH := IH.out f[k].2 (fc k) w1 (d + 1) s1 N (by have := HSF.out k hlt; have := HN.out; omega) (by have := HNF.out k hlt; have := HND.out; omega) (by omega) (by omega) hs1 HS1b.out (HCW1.rd (HFi.out k hlt)) HCW1.n
                    have HS := HR.out.trans (lookL_drop (l ++ f.map (·.2)) (l.length + k) (by rw [List.length_append, List.length_map]; omega) (d + 1) s1)
                    have hel : (l ++ f.map (·.2))[l.length + k]'(by rw [List.length_append, List.length_map]; omega) = f[k].2 := by
                      rw [List.getElem_append_right (by omega)]
                      simp
                    rw [hel] at HS
                    have HBD := Lib.hid (lookV_bd _ f[k].2 (d + 1) s1 (Nat.le_refl _))
                    refine HIH.mono ?_
                    rintro e w4 ⟨rfl, o1, o2, o3, hz4, hbl, s', hn', hs'⟩
                    have HCW4 := Lib.hid (HCW1.upd o1 o2 o3 hz4 hbl hn')
                    clear hel
                    generalize lookV f[k].2 (d + 1) s1 = r2 at *
                    obtain ⟨s2, e2⟩ := r2
                    have HBD2 : Hid (0 ≤ s2 ∧ s2 ≤ 65536) := by unfold Hid; have := HBD.out; have := HS1b.out; simp only at *; omega
                    have HSx := Lib.hid HS
                    have HSP : Hid (e2 = 0 → s' = s2) := hs'
                    clear HS HR HIH HCW HCW1 HBD hs' hn' hbl hz4 o1 o2 o3 HA1 HB1 hrd hc14 HONEc
                    clear x0 x1 x2 x3 x4 x5 x6 x7 x8 x9 x10 x11 x12 xf
                    obtain ⟨⟨x0, x1, x2, x3, x4, x5, x6, x7, x8, x9, x10, x11, x12⟩, xf⟩ := box13 (HCW4.out.b.trans (congrArg some HXE.out))
                    by_cases he : e2 = 0
                    case neg =>
                      have HF : Hid (R = (s2, e2)) := by unfold Hid; rw [HSx.out, if_pos he]
                      have hqe : ((e2 : Int) != 0) = true := by rw [bne_iff_ne]; omega
                      have HE := Lib.hid he
                      clear HSx he
                      go_wp2_with fail
                      go_ret
                      exact HCW4.out.post (R := R) (by rw [HF.out]) (by rw [HF.out]; intro h; exact absurd h HE.out)
                    case pos =>
                      subst he
                      have hss := HSP.out rfl
                      subst hss
                      have HF : Hid (R = lookL ((l ++ f.map (·.2)).drop (l.length + (k + 1))) (d + 1) s') := by unfold Hid; rw [HSx.out, if_neg (by simp), Nat.add_assoc]
                      clear HSx HSP
                      go_wp2_with fail
                      exact ⟨⟨k + 1, s', by omega, rfl, HBD2.out.1, HBD2.out.2, HF, HCW4⟩, by simp [intOf]; omega⟩
end Go.Proofs.YthdninnjjmhpfaaGreatDoor

namespace Go.Proofs.YthdninnjjmhpfaaGreatDoor
open Go.RowKit
set_option maxHeartbeats 1000000
set_option maxRecDepth 100000

/-- A step's cells. -/
def stk (x : St) : List Value := [.bool x.1, .string x.2.1, .int .i64 x.2.2]
theorem stk_len (x : St) : (stk x).length = 3 := rfl
theorem stk_one (x : St) : ∀ u ∈ stk x, u.oneCell' = true := by
  intro u hu
  simp only [stk, List.mem_cons, List.mem_nil_iff, or_false] at hu
  rcases hu with rfl | rfl | rfl <;> rfl
/-- A row of one's own reads as the path. -/
theorem Rd.of_own {w : World} {base : Nat} {e : TypeId} {v : Value} {l : List St} (h : w.ownsRow base e 3 v l.length (l.flatMap stk)) : Rd w v l := by
  rcases h.2 with ⟨rfl, h0⟩ | ⟨g, cap, cur, rfl, hb, hh, hn, hc, _⟩
  · obtain rfl : l = [] := List.length_eq_zero_iff.1 h0
    exact Rd.nil
  · refine ⟨some ⟨g, 0, none⟩, cap, rfl, hn, by omega, (fun h => by cases h), fun _ => ⟨g, 0, rfl, (h.lt g rfl).2, fun i hi => ?_⟩⟩
    refine ⟨?_, ?_, ?_⟩
    · rw [Nat.zero_add, World.ownsRow.cellAt h (i * 3) (by omega)]
      exact flat_get stk 3 stk_len l i hi 0 (by decide)
    · rw [Nat.zero_add, World.ownsRow.cellAt h (i * 3 + 1) (by omega)]
      exact flat_get stk 3 stk_len l i hi 1 (by decide)
    · rw [Nat.zero_add, World.ownsRow.cellAt h (i * 3 + 2) (by omega)]
      exact flat_get stk 3 stk_len l i hi 2 (by decide)
theorem elem_step : Elem Tryz.prog 52 94 3 := elem_of (z := .agg #[.bool false, .string ⟨#[]⟩, .int .i64 0]) (bytes := 32) Tryz.underlying52 (by kernel_rfl) (by decide) (by decide) rfl
theorem flat_cells {w : World} {g o : Nat} {l : List St} (h : At3 w g o l) : ∀ j u, (l.flatMap stk)[j]? = some u → w.cell? ((⟨g, o, none⟩ : Addr).add j) = some u := by
  intro j u hu
  have hadd : (⟨g, o, none⟩ : Addr).add j = ⟨g, o + j, none⟩ := by unfold Addr.add; split <;> simp_all
  rw [hadd]
  have hlen : (l.flatMap stk).length = l.length * 3 := by
    clear h hu
    induction l with
    | nil => rfl
    | cons x l ih => rw [List.flatMap_cons, List.length_append, ih, stk_len, List.length_cons]; omega
  have hj : j < l.length * 3 := by
    rw [List.getElem?_eq_some_iff] at hu
    obtain ⟨h1, _⟩ := hu
    omega
  have hi : j / 3 < l.length := by omega
  obtain ⟨c0, c1, c2⟩ := h (j / 3) hi
  have hf := flat_get stk 3 stk_len l (j / 3) hi (j % 3) (by omega)
  rw [show j / 3 * 3 + j % 3 = j by omega, hu] at hf
  rcases (by omega : j % 3 = 0 ∨ j % 3 = 1 ∨ j % 3 = 2) with h3 | h3 | h3
  · rw [h3] at hf
    rw [show o + j = o + j / 3 * 3 by omega, c0, hf]; rfl
  · rw [h3] at hf
    rw [show o + j = o + j / 3 * 3 + 1 by omega, c1, hf]; rfl
  · rw [h3] at hf
    rw [show o + j = o + j / 3 * 3 + 2 by omega, c2, hf]; rfl
theorem flat_len3 (l : List St) : (l.flatMap stk).length = l.length * 3 := by
  induction l with
  | nil => rfl
  | cons x l ih => rw [List.flatMap_cons, List.length_append, ih, stk_len, List.length_cons]; omega
theorem stk_all (l : List St) : ∀ u ∈ l.flatMap stk, u.oneCell' = true := by
  intro u hu
  obtain ⟨x, _, hx⟩ := List.mem_flatMap.1 hu
  exact stk_one x u hx
/-- 'append(v, p...)': p is a path that is read. -/
theorem wp_appendRd {P : Program} {w1 : World} {ops : Array Oper} {rest : List Oper} {o : Oper} {a : Act} {Q : Exit → Act → World → Prop} {t e : TypeId} {base n : Nat} {v u : Value} {xs : List Value} {l : List St}
    (he : Elem P t e 3) (hgd : o.guard = none) (s x : Operand) (ho : o.op = .call { callee := .builtin .append, args := #[s, x], argTypes := #[t, t] })
    (hown : w1.ownsRow base e 3 v n xs) (hu : Rd w1 u l) (hs : a.eval s = v) (hx : a.eval x = u)
    (hn : n + l.length < 100000000000) (hbase : base ≤ w1.heap.size)
    (h : ∀ v' w', w'.ownsRow base e 3 v' (n + l.length) (xs ++ l.flatMap stk) → w1.grownBy w' v.ownBlock → Below base w1 w' → wpList P ops Q rest (a.put o.dst v') w') :
    wpList P ops Q (o :: rest) a w1 := by
  obtain ⟨ht, hsz, i, z, hi, hz, hsi, hby, hzs⟩ := he
  have hbytes : (n + l.length) * i.bytes ≤ 140737488355328 := Nat.le_trans (Nat.mul_le_mul (show n + l.length ≤ 100000000000 by omega) hby) (by decide)
  have fin : ∀ v' w', w'.ownsRow base e 3 v' (n + l.length) (xs ++ l.flatMap stk) → w1.grownBy w' v.ownBlock → wpList P ops Q rest (a.put o.dst v') w' :=
    fun v' w' h1 h2 => h v' w' h1 h2 ((Below.refl base w1).grown h2 hbase (fun k hk => (hown.lt k hk).1))
  obtain ⟨ad, cap, rfl, hcap, hmax, hnil, hl⟩ := hu
  rcases ad with _ | ad
  · have h0 := hnil rfl
    have hl0 : l = [] := List.length_eq_zero_iff.1 (by omega)
    subst hl0 h0
    simp only [List.length_nil] at hx fin
    have hrun : (Builtin.append_ #[t, t] o.type #[v, .slice none 0 0]).run P w1 = .ok v w1 := by
      rcases hown.2 with ⟨rfl, rfl⟩ | ⟨g, cap, cur, rfl, _, hh, hnc, hc, hsc⟩
      · simp [Builtin.append_, run_underlying ht, sizeOf, typeInfo, hi, Builtin.lenOf, Builtin.firstCells]
      · have := run_append_room_src (P := P) w1 t t o.type e i ht hi g 0 n cap (.slice none 0 0) 0 [] (Src.ofNil w1 ht 0) (by omega) (by intro j hj; cases hj) (by intro j hj; cases hj)
        exact this
    refine wpList_plain hgd fun K hK => ?_
    unfold Oper.wp execOp
    simp only [ho, resolve, invoke, builtin, Sem.run_bind, Sem.run_pure, Result.andThen_ok, List.map_toArray, List.map_cons, List.map_nil, hs, hx, hrun]
    exact hK _ _ (fin v w1 (by simpa using hown) ⟨rfl, rfl, rfl, Nat.le_refl _, fun _ _ _ => rfl⟩)
  · refine wpList_append_own _ hgd s x t ho base e i z 3 i.bytes ht hi hz hsi rfl hzs hsz v n xs hs hown ad l.length cap (l.flatMap stk) hx (flat_len3 l) ?_ (stk_all l) (by simp only [maxLen]; omega) hbytes hbase (fun v' w' h1 h2 _ => fin v' w' h1 h2)
    by_cases hl0 : l = []
    · subst hl0; intro j u hu; simp at hu
    · obtain ⟨g, off, had, _, hat⟩ := hl hl0
      cases had
      exact flat_cells hat
theorem own_empty (w : World) (e : TypeId) : (w.alloc (.cells #[] e)).ownsRow w.heap.size e 3 (.slice (some ⟨w.heap.size, 0, none⟩) 0 0) 0 [] :=
  ⟨rfl, .inr ⟨w.heap.size, 0, #[], rfl, Nat.le_refl _, heap_alloc_new w _, Nat.le_refl _, by decide, rfl, rfl⟩⟩
end Go.Proofs.YthdninnjjmhpfaaGreatDoor

namespace Go.Proofs.YthdninnjjmhpfaaGreatDoor
open Go.RowKit
set_option maxHeartbeats 1000000
set_option maxRecDepth 100000

/-- The cells of a change. -/
structure CC where
  op : Int
  p : Value
  pos : Int
  o : VC
  n : VC
def CC.cells (c : CC) : List Value := .int .i64 c.op :: c.p :: .int .i64 c.pos :: (c.o.cells ++ c.n.cells)
theorem ccells_len (c : CC) : c.cells.length = 29 := rfl
/-- A change. -/
structure Ch where
  op : Int
  p : List St
  pos : Int
  o : V
  n : V
structure RdC (w : World) (S : Nat → Prop) (c : CC) (x : Ch) : Prop where
  op : c.op = x.op
  pos : c.pos = x.pos
  iop : I64 x.op
  ipos : I64 x.pos
  p : Rd w c.p x.p
  sp : BlkIn S c.p
  o : RdI w S c.o x.o
  n : RdI w S c.n x.n
theorem Rd.kept {w w' : World} {v : Value} {l : List St} {S : Nat → Prop} (h : Rd w v l) (hs : BlkIn S v) (hk : ∀ b, S b → b < w.heap.size → w'.heap[b]? = w.heap[b]?) (hz : w.heap.size ≤ w'.heap.size) : Rd w' v l := by
  obtain ⟨a, cap, hv, h1, h2, h0, h3⟩ := h
  refine ⟨a, cap, hv, h1, h2, h0, fun hl => ?_⟩
  obtain ⟨g, o, ha, hg, hc⟩ := h3 hl
  have hb := hk g (hs g o none l.length cap (by rw [hv, ha]) (List.length_pos_iff.2 hl)) hg
  refine ⟨g, o, ha, Nat.lt_of_lt_of_le hg hz, fun i hi => ?_⟩
  obtain ⟨c0, c1, c2⟩ := hc i hi
  exact ⟨(World.cell?_of_block (a := ⟨g, o + i * 3, none⟩) hb).trans c0, (World.cell?_of_block (a := ⟨g, o + i * 3 + 1, none⟩) hb).trans c1, (World.cell?_of_block (a := ⟨g, o + i * 3 + 2, none⟩) hb).trans c2⟩
theorem Rd.blk {w : World} {v : Value} {l : List St} (h : Rd w v l) {S : Nat → Prop} (hs : BlkIn S v) : BlkIn (fun b => S b ∧ b < w.heap.size) v := by
  obtain ⟨a, cap, rfl, h1, h2, h0, h3⟩ := h
  intro g o p m cap' hv hm
  refine ⟨hs g o p m cap' hv hm, ?_⟩
  simp only [Value.slice.injEq] at hv
  obtain ⟨rfl, rfl, rfl⟩ := hv
  obtain ⟨g', o', ha, hg, _⟩ := h3 (List.length_pos_iff.1 hm)
  simp only [Option.some.injEq, Addr.mk.injEq] at ha
  rw [ha.1]
  exact hg
theorem stbC : Stb RdC :=
  ⟨fun h hk hz => ⟨h.op, h.pos, h.iop, h.ipos, h.p.kept h.sp hk hz, h.p.blk h.sp, stbV.kept h.o hk hz, stbV.kept h.n hk hz⟩,
   fun h hs => ⟨h.op, h.pos, h.iop, h.ipos, h.p, h.sp.mono hs, h.o.mono hs, h.n.mono hs⟩⟩
theorem RdC.stays {w w' : World} {S : Nat → Prop} {c : CC} {x : Ch} (h : RdC w S c x) (hb : Below w.heap.size w w') : RdC w' S c x :=
  stbC.mono (stbC.kept h (fun b _ hb' => hb.block b hb') hb.size) (fun _ h => h.1)
theorem RdC.any {w : World} {S : Nat → Prop} {c : CC} {x : Ch} (h : RdC w S c x) : RdC w (fun _ => True) c x := stbC.mono h (fun _ _ => trivial)
/-- A list of changes. -/
def RdL (w : World) (v : Value) (xs : List Ch) : Prop := ∃ cc : Nat → CC, Sl w v xs.length 29 (fun i => (cc i).cells) ∧ ∀ i (hi : i < xs.length), RdC w (fun _ => True) (cc i) xs[i]
theorem RdL.below {w w' : World} {v : Value} {xs : List Ch} (h : RdL w v xs) (hb : Below w.heap.size w w') : RdL w' v xs := by
  obtain ⟨cc, h1, h2⟩ := h
  exact ⟨cc, h1.below hb, fun i hi => (h2 i hi).stays hb⟩
/-- A change as an aggregate. -/
abbrev aggC (c : CC) : Value := .agg #[.int .i64 c.op, c.p, .int .i64 c.pos,
  .int .i64 c.o.h.kind, .bool c.o.h.bool, .bool c.o.h.neg, .string c.o.h.ds, .int .i64 c.o.h.exp, .int .i64 c.o.h.tk, .int .i64 c.o.h.day, .int .i64 c.o.h.nano, .int .i64 c.o.h.off, .string c.o.h.text, c.o.b, c.o.l, c.o.f,
  .int .i64 c.n.h.kind, .bool c.n.h.bool, .bool c.n.h.neg, .string c.n.h.ds, .int .i64 c.n.h.exp, .int .i64 c.n.h.tk, .int .i64 c.n.h.day, .int .i64 c.n.h.nano, .int .i64 c.n.h.off, .string c.n.h.text, c.n.b, c.n.l, c.n.f]
theorem cells_at {w : World} {g o : Nat} {cs : List Value} {n : Nat} (h : ∀ j, j < n → w.cell? ⟨g, o + j, none⟩ = cs[j]?) (d m : Nat) (hd : d + m ≤ n) : ∀ j, j < m → w.cell? ⟨g, o + d + j, none⟩ = (cs.drop d)[j]? := by
  intro j hj
  rw [Nat.add_assoc, h (d + j) (by omega), List.getElem?_drop]
/-- The cells of an element that is a change, each value at its own place. -/
theorem cells29 {w : World} {g o : Nat} {c : CC} (h : ∀ j, j < 29 → w.cell? ⟨g, o + j, none⟩ = c.cells[j]?) :
    w.cell? ⟨g, o, none⟩ = some (.int .i64 c.op) ∧ w.cell? ⟨g, o + 1, none⟩ = some c.p ∧ w.cell? ⟨g, o + 2, none⟩ = some (.int .i64 c.pos) ∧
      (∀ j, j < 13 → w.cell? ⟨g, o + 3 + j, none⟩ = c.o.cells[j]?) ∧ (∀ j, j < 13 → w.cell? ⟨g, o + 16 + j, none⟩ = c.n.cells[j]?) := by
  refine ⟨h 0 (by decide), h 1 (by decide), h 2 (by decide), fun j hj => ?_, fun j hj => ?_⟩
  · rw [cells_at h 3 13 (by decide) j hj]
    show (c.o.cells ++ c.n.cells)[j]? = _
    rw [List.getElem?_append_left (by rw [cells_len]; exact hj)]
  · rw [cells_at h 16 13 (by decide) j hj]
    rfl
/-! What few asks; inverting. -/
def fewOne (x : Ch) : Bool := decide (0 ≤ roomV x.o 150 60) && (decide (0 ≤ roomV x.n 150 60) && decide (x.p.length ≤ 60))
def fewB (xs : List Ch) : Bool := decide (xs.length ≤ 30) && xs.all fewOne
theorem fewOne_is {x : Ch} (h : fewOne x = true) : nodV x.o ≤ 150 ∧ depV x.o ≤ 60 ∧ nodV x.n ≤ 150 ∧ depV x.n ≤ 60 ∧ x.p.length ≤ 60 := by
  unfold fewOne at h
  rw [Bool.and_eq_true, Bool.and_eq_true, decide_eq_true_iff, decide_eq_true_iff, decide_eq_true_iff] at h
  obtain ⟨h1, h2, h3⟩ := h
  obtain ⟨a, b⟩ := roomV_is x.o 150 60 h1
  obtain ⟨c, d⟩ := roomV_is x.n 150 60 h2
  omega
theorem fewB_is {xs : List Ch} (h : fewB xs = true) : xs.length ≤ 30 ∧ ∀ i (hi : i < xs.length), fewOne xs[i] = true := by
  unfold fewB at h
  rw [Bool.and_eq_true, decide_eq_true_iff, List.all_eq_true] at h
  exact ⟨h.1, fun i hi => h.2 _ (List.getElem_mem hi)⟩
theorem all_dropC (l : List Ch) (k : Nat) (h : k < l.length) : (l.drop k).all fewOne = (fewOne l[k] && (l.drop (k + 1)).all fewOne) := by
  rw [List.drop_eq_getElem_cons h, List.all_cons]
def invC (x : Ch) : Ch := if x.op = 1 then ⟨1, x.p, x.pos, x.n, x.o⟩ else if x.op = 2 then ⟨3, x.p, x.pos, x.n, x.o⟩ else if x.op = 3 then ⟨2, x.p, x.pos, x.n, x.o⟩ else x
def invL (xs : List Ch) : List Ch := xs.reverse.map invC
end Go.Proofs.YthdninnjjmhpfaaGreatDoor

namespace Go.Proofs.YthdninnjjmhpfaaGreatDoor
open Go.RowKit
set_option maxHeartbeats 4000000
set_option maxRecDepth 100000

theorem two_allocs {w w1 : World} {x y : Obj} (hb : Below ((w.alloc x).alloc y).heap.size ((w.alloc x).alloc y) w1) : Below w.heap.size w w1 ∧ w1.heap[w.heap.size]? = some x ∧ w1.heap[w.heap.size + 1]? = some y ∧ w.heap.size + 2 ≤ w1.heap.size := by
  refine ⟨(((Below.refl _ _).alloc (Nat.le_refl _) _).alloc (by simp) _).trans (hb.mono (by simp; omega)), ?_, ?_, ?_⟩
  · exact (hb.block _ (by simp; omega)).trans ((heap_alloc_old _ _ (by simp)).trans (heap_alloc_new w _))
  · refine (hb.block _ (by simp)).trans ?_
    have := heap_alloc_new (w.alloc x) y
    simpa using this
  · have := hb.size
    simp at this
    omega
theorem Copy_any (v : V) (c : VC) (w : World) (hn : nodV v ≤ 1000000) (hd : depV v ≤ 65536) (hv : RdV w c v) :
    Calls Tryz.prog 24 #[aggV c] w (CpPost w v) := by
  obtain ⟨h, a1, a2, a3, n1, n2, n3, m1, m2, m3, rfl⟩ := hv.forms
  have HV := Lib.hid hv
  clear hv
  simp only [aggV]
  go_enter Tryz.func24, Tryz.ntmps24
  go_wp2_with fail
  refine (copied_any _ v ⟨h, .slice a1 n1 m1, .slice a2 n2 m2, .slice a3 n3 m3⟩ _ 65536 (Nat.le_refl _) hn (by omega) (by omega) (HV.out.stays (((Below.refl _ _).alloc (Nat.le_refl _) _).alloc (by simp) _))).mono ?_
  rintro e w1 ⟨c, rfl, hrd, hb⟩
  obtain ⟨⟨a0, a1, a2, a3, a4, a5, a6, a7, a8, a9, a10⟩, b1, b2, b3, o1, o2, o3, p1, p2, p3, rfl⟩ := hrd.forms
  obtain ⟨hbw, _, hy, hz⟩ := two_allocs hb
  obtain ⟨⟨y0, y1, y2, y3, y4, y5, y6, y7, y8, y9, y10, y11, y12⟩, yf⟩ := box13 hy
  have hrd2 : ∀ w9 : World, (∀ b, w.heap.size + 2 ≤ b → w9.heap[b]? = w1.heap[b]?) → w9.heap.size = w1.heap.size → RdI w9 (fun b => w.heap.size ≤ b) ⟨⟨a0, a1, a2, a3, a4, a5, a6, a7, a8, a9, a10⟩, .slice b1 o1 p1, .slice b2 o2 p2, .slice b3 o3 p3⟩ v :=
    fun w9 hk hz9 => (hrd.kept (fun b hb _ => hk b (by simp at hb; omega)) (by omega)).mono (fun b hb => by simp at hb; omega)
  have HRD := Lib.hid hrd2
  have HB := Lib.hid hbw
  clear hrd hb hy hrd2 hbw
  go_wp2_with fail
  refine bodyPost_ret (v := aggV ⟨⟨a0, a1, a2, a3, a4, a5, a6, a7, a8, a9, a10⟩, .slice b1 o1 p1, .slice b2 o2 p2, .slice b3 o3 p3⟩) (by simp [results, Tryz.results24, go_sem, y0, y1, y2, y3, y4, y5, y6, y7, y8, y9, y10, y11, y12]) rfl ⟨_, rfl, HRD.out _ (fun b hb => ?_) ?_, ?_⟩
  · repeat rw [heap_setCell_other _ _ b _ (by dsimp only; omega)]
  · simp
  · repeat refine Below.setCell ?_ (by dsimp only; omega) _
    exact HB.out

theorem roomV_bd : ∀ (n : Nat) (v : V) (left d : Int), SizeOf.sizeOf v ≤ n → 0 ≤ left → -1 ≤ roomV v left d ∧ roomV v left d ≤ left := by
  intro n
  induction n with
  | zero => intro v left d hn; exfalso; cases v; rw [V.mk.sizeOf_spec] at hn; omega
  | succ n ih =>
    intro v left d hn h0
    obtain ⟨h, l, f⟩ := v
    have hl : ∀ (m : Nat) (t : List V) (left d : Int), t.length = m → (∀ x ∈ t, SizeOf.sizeOf x ≤ n) → -1 ≤ left → -1 ≤ roomL t left d ∧ roomL t left d ≤ left := by
      intro m
      induction m with
      | zero => intro t left d ht _ h; obtain rfl := List.length_eq_zero_iff.1 ht; rw [roomL]; omega
      | succ m ihm =>
        intro t left d ht hs h
        obtain ⟨x, t, rfl⟩ : ∃ x u, t = x :: u := by cases t with | nil => simp at ht | cons x u => exact ⟨x, u, rfl⟩
        rw [roomL]
        split
        · omega
        · obtain ⟨h1, h2⟩ := ih x left d (hs x (by simp)) (by omega)
          obtain ⟨h3, h4⟩ := ihm t (roomV x left d) d (by simpa using ht) (fun y hy => hs y (by simp [hy])) h1
          omega
    have hf : ∀ (m : Nat) (t : List (ByteArray × V)) (left d : Int), t.length = m → (∀ x ∈ t, SizeOf.sizeOf x.2 ≤ n) → -1 ≤ left → -1 ≤ roomF t left d ∧ roomF t left d ≤ left := by
      intro m
      induction m with
      | zero => intro t left d ht _ h; obtain rfl := List.length_eq_zero_iff.1 ht; rw [roomF]; omega
      | succ m ihm =>
        intro t left d ht hs h
        obtain ⟨k, x, t, rfl⟩ : ∃ k x u, t = (k, x) :: u := by cases t with | nil => simp at ht | cons x u => exact ⟨x.1, x.2, u, rfl⟩
        rw [roomF]
        split
        · omega
        · obtain ⟨h1, h2⟩ := ih x left d (hs (k, x) (by simp)) (by omega)
          obtain ⟨h3, h4⟩ := ihm t (roomV x left d) d (by simpa using ht) (fun y hy => hs y (by simp [hy])) h1
          omega
    rw [roomV_mk]
    split
    · omega
    · obtain ⟨h1, h2⟩ := hl _ l (left - 1) (d - 1) rfl (fun x hx => by
        obtain ⟨i, hi, rfl⟩ := List.getElem_of_mem hx
        have := sz_l h l f i hi
        omega) (by omega)
      obtain ⟨h3, h4⟩ := hf _ f (roomL l (left - 1) (d - 1)) (d - 1) rfl (fun x hx => by
        obtain ⟨i, hi, rfl⟩ := List.getElem_of_mem hx
        have := sz_f h l f i hi
        omega) h1
      omega
theorem room_any : ∀ (n : Nat) (v : V) (c : VC) (w : World) (left depth : Int), SizeOf.sizeOf v ≤ n → 0 ≤ left → left ≤ 1000000 → 0 ≤ depth → depth ≤ 1000 → RdV w c v →
    Calls Tryz.prog 27 #[aggV c, .int .i64 left, .int .i64 depth] w fun e w' => e = .returned (.int .i64 (roomV v left depth)) ∧ Below w.heap.size w w' := by
  intro n
  induction n with
  | zero => intro v c w left depth hn; exfalso; cases v; rw [V.mk.sizeOf_spec] at hn; omega
  | succ n ih =>
    intro v c w left depth hn h0 h1 hd0 hd1 hv
    have IH := Lib.hid ih; clear ih
    cases hv with
    | mk h l f bv lv fv lc fc ok hB hl hL hf hK hF _ _ _ =>
    obtain ⟨ba, bcap, rfl, hb1, ⟨hb2, _⟩, hb3, hb4⟩ := hB
    obtain ⟨la, lcap, rfl, hl1, ⟨hl2, _⟩, hl3, hl4⟩ := hl
    obtain ⟨fa, fcap, rfl, hf1, ⟨hf2, _⟩, hf3, hf4⟩ := hf
    have HL := Lib.hid hl4; clear hl4
    have HFc := Lib.hid hf4; clear hf4
    have HLi := Lib.hid hL; clear hL
    have HFi := Lib.hid hF; clear hF
    clear hb4 hb3 hb2 hb1 hl3 hf3 hK ok
    obtain ⟨a0, a1, a2, a3, a4, a5, a6, a7, a8, a9, a10⟩ := h
    simp only [aggV]
    have HR := Lib.hid (roomV_mk ⟨a0, a1, a2, a3, a4, a5, a6, a7, a8, a9, a10⟩ l f left depth)
    by_cases hc1 : depth ≤ 0
    · have HF : Hid (roomV (.mk ⟨a0, a1, a2, a3, a4, a5, a6, a7, a8, a9, a10⟩ l f) left depth = -1) := by unfold Hid; rw [HR.out, if_pos (by omega)]
      clear HR
      generalize roomV (.mk ⟨a0, a1, a2, a3, a4, a5, a6, a7, a8, a9, a10⟩ l f) left depth = r at *
      go_enter Tryz.func27, Tryz.ntmps27
      go_wp2_with fail
      go_ret
      exact ⟨by rw [HF.out]; rfl, (Below.refl _ _).alloc (Nat.le_refl _) _⟩
    by_cases hc2 : left - 1 < (l.length : Int)
    · have HF : Hid (roomV (.mk ⟨a0, a1, a2, a3, a4, a5, a6, a7, a8, a9, a10⟩ l f) left depth = -1) := by unfold Hid; rw [HR.out, if_pos (by omega)]
      clear HR
      generalize roomV (.mk ⟨a0, a1, a2, a3, a4, a5, a6, a7, a8, a9, a10⟩ l f) left depth = r at *
      go_enter Tryz.func27, Tryz.ntmps27
      go_wp2_with fail
      go_ret
      exact ⟨by rw [HF.out]; rfl, (Below.refl _ _).alloc (Nat.le_refl _) _⟩
    by_cases hc3 : left - 1 < (f.length : Int)
    · have HF : Hid (roomV (.mk ⟨a0, a1, a2, a3, a4, a5, a6, a7, a8, a9, a10⟩ l f) left depth = -1) := by unfold Hid; rw [HR.out, if_pos (by omega)]
      clear HR
      generalize roomV (.mk ⟨a0, a1, a2, a3, a4, a5, a6, a7, a8, a9, a10⟩ l f) left depth = r at *
      go_enter Tryz.func27, Tryz.ntmps27
      go_wp2_with fail
      go_ret
      exact ⟨by rw [HF.out]; rfl, (Below.refl _ _).alloc (Nat.le_refl _) _⟩
    have HF : Hid (roomV (.mk ⟨a0, a1, a2, a3, a4, a5, a6, a7, a8, a9, a10⟩ l f) left depth = roomF f (roomL l (left - 1) (depth - 1)) (depth - 1)) := by unfold Hid; rw [HR.out, if_neg (by omega)]
    clear HR
    have HSL := Lib.hid (fun i hi => sz_l ⟨a0, a1, a2, a3, a4, a5, a6, a7, a8, a9, a10⟩ l f i hi)
    have HSF := Lib.hid (fun i hi => sz_f ⟨a0, a1, a2, a3, a4, a5, a6, a7, a8, a9, a10⟩ l f i hi)
    have HN := Lib.hid hn; clear hn
    generalize roomV (.mk ⟨a0, a1, a2, a3, a4, a5, a6, a7, a8, a9, a10⟩ l f) left depth = r at *
    go_enter Tryz.func27, Tryz.ntmps27
    go_wp2_with fail
    have hx : (w.alloc (.cells #[.int .i64 a0, .bool a1, .bool a2, .string a3, .int .i64 a4, .int .i64 a5, .int .i64 a6, .int .i64 a7, .int .i64 a8, .string a9, .slice ba a10.length bcap, .slice la l.length lcap, .slice fa f.length fcap] 30)).heap[w.heap.size]? = some (.cells #[.int .i64 a0, .bool a1, .bool a2, .string a3, .int .i64 a4, .int .i64 a5, .int .i64 a6, .int .i64 a7, .int .i64 a8, .string a9, .slice ba a10.length bcap, .slice la l.length lcap, .slice fa f.length fcap] 30 (0, 0)) := heap_alloc_new w _
    have hb0 : Below w.heap.size w (w.alloc (.cells #[.int .i64 a0, .bool a1, .bool a2, .string a3, .int .i64 a4, .int .i64 a5, .int .i64 a6, .int .i64 a7, .int .i64 a8, .string a9, .slice ba a10.length bcap, .slice la l.length lcap, .slice fa f.length fcap] 30)) := (Below.refl _ _).alloc (Nat.le_refl _) _
    have hz0 : w.heap.size < (w.alloc (.cells #[.int .i64 a0, .bool a1, .bool a2, .string a3, .int .i64 a4, .int .i64 a5, .int .i64 a6, .int .i64 a7, .int .i64 a8, .string a9, .slice ba a10.length bcap, .slice la l.length lcap, .slice fa f.length fcap] 30)).heap.size := by simp
    have HX := Lib.hid hx
    have HB0 := Lib.hid hb0
    have HZ0 := Lib.hid hz0
    clear hx hb0 hz0
    generalize w.alloc (.cells #[.int .i64 a0, .bool a1, .bool a2, .string a3, .int .i64 a4, .int .i64 a5, .int .i64 a6, .int .i64 a7, .int .i64 a8, .string a9, .slice ba a10.length bcap, .slice la l.length lcap, .slice fa f.length fcap] 30) = w1 at *
    obtain ⟨RL, hRL⟩ : ∃ RL : Int, RL = roomL l (left - 1) (depth - 1) := ⟨_, rfl⟩
    have HRL := Lib.hid hRL
    rw [← hRL] at HF
    clear hRL
    go_loopw [1, 7] (fun cv iv wr => ∃ (k : Nat) (cur : Int), k ≤ l.length ∧ iv = .int .i64 k ∧ cv = .int .i64 cur ∧ -1 ≤ cur ∧ cur ≤ left - 1 ∧ Hid (RL = roomL (l.drop k) cur (depth - 1)) ∧ Below w1.heap.size w1 wr) (fun _ iv _ => l.length - (intOf iv).toNat)
    case atStart => exact ⟨0, left - 1, by omega, rfl, rfl, by omega, by omega, by unfold Hid; rw [HRL.out, List.drop_zero], Below.refl _ _⟩
    case round =>
      obtain ⟨k, cur, hk, rfl, rfl, hcl, hcu, HC, hbw⟩ := hrel
      obtain ⟨⟨x0, x1, x2, x3, x4, x5, x6, x7, x8, x9, x10, x11, x12⟩, xf⟩ := box13 ((hbw.block w.heap.size HZ0.out).trans HX.out)
      clear x0 x1 x2 x3 x4 x5 x6 x7 x8 x9 x10 xf
      obtain ⟨q, hq⟩ : ∃ q : Bool, q = decide (k < l.length ∧ 0 ≤ cur) := ⟨_, rfl⟩
      have HQ := Lib.hid hq
      clear hq
      go_upto_region 5 with fail
      go_cut [35] (fun v wx => v = .bool q ∧ wr = wx)
      case first =>
        by_cases hlt : k < l.length
        case neg =>
          obtain rfl : q = false := by rw [HQ.out]; exact decide_eq_false (fun h => hlt h.1)
          go_wp2_with fail
          go_meet
          exact ⟨rfl, rfl⟩
        case pos =>
          by_cases hc : 0 ≤ cur
          case pos =>
            obtain rfl : q = true := by rw [HQ.out]; exact decide_eq_true ⟨hlt, hc⟩
            go_wp2_with fail
            go_meet
            exact ⟨rfl, rfl⟩
          case neg =>
            obtain rfl : q = false := by rw [HQ.out]; exact decide_eq_false (fun h => hc h.2)
            go_wp2_with fail
            go_meet
            exact ⟨rfl, rfl⟩
      case rest =>
      obtain ⟨rfl, rfl⟩ := hcut
      cases q with
      | true =>
        obtain ⟨hlt, hc⟩ := of_decide_eq_true HQ.out.symm
        clear HQ
        obtain ⟨g, o, rfl, hg, hat⟩ := HL.out (by omega)
        have hbw0 : Below w.heap.size w wr := HB0.out.trans (hbw.mono (by have := HZ0.out; omega))
        have hrd := (HLi.out k hlt).stays hbw0
        have hsz := HSL.out k hlt
        have hnn := HN.out
        have hc13 := fun j hj => (hbw0.cell hg).trans (hat k hlt j hj)
        have HIH := Lib.hid (IH.out l[k] (lc k) wr cur (depth - 1) (by omega) (by omega) (by omega) (by omega) (by omega) hrd)
        have HS : Hid (RL = roomL (l.drop (k + 1)) (roomV l[k] cur (depth - 1)) (depth - 1)) := by unfold Hid; rw [HC.out, roomL_drop l k hlt _ _ hc]
        have hbd := roomV_bd _ l[k] cur (depth - 1) (Nat.le_refl _) hc
        have hfm := hrd.forms
        clear hat hrd hsz hnn HC
        generalize roomV l[k] cur (depth - 1) = r2 at *
        generalize lc k = c at *
        obtain ⟨⟨p0, p1, p2, p3, p4, p5, p6, p7, p8, p9, p10⟩, q1, q2, q3, n1, n2, n3, m1, m2, m3, rfl⟩ := hfm
        obtain ⟨c0, c1, c2, c3, c4, c5, c6, c7, c8, c9, c10, c11, c12⟩ := cells13 hc13
        simp only at c0 c1 c2 c3 c4 c5 c6 c7 c8 c9 c10 c11 c12
        clear hc13
        obtain ⟨hb1, hb2⟩ := hbd
        go_wp2_with fail
        refine HIH.out.mono ?_
        rintro e w4 ⟨rfl, hb5⟩
        have hb6 := hbw.trans (hb5.mono hbw.size)
        go_wp2_with fail
        exact ⟨⟨k + 1, r2, by omega, rfl, rfl, hb1, by omega, HS, hb6⟩, by simp [intOf]; omega⟩
      | false =>
        have HC2 : Hid (RL = cur) := by
          unfold Hid
          rw [HC.out]
          have := of_decide_eq_false HQ.out.symm
          by_cases hlt : k < l.length
          · exact roomL_neg _ _ _ (by omega)
          · rw [List.drop_of_length_le (by omega), roomL]
        clear HC HQ
        go_wp2_with fail
        have HBW := Lib.hid hbw
        have HX2 := Lib.hid ((hbw.block w.heap.size HZ0.out).trans HX.out)
        have HZ2 := Lib.hid (Nat.lt_of_lt_of_le HZ0.out hbw.size)
        have HB2 := Lib.hid (HB0.out.trans (hbw.mono (Nat.le_of_lt HZ0.out)))
        clear hbw HX HZ0 HB0 x11 x12 HL HLi HSL
        obtain ⟨wo, rfl⟩ : ∃ wo : World, wo = wr := ⟨_, rfl⟩
        go_loopw [1, 8] (fun cv iv wr => ∃ (k : Nat) (cu : Int), k ≤ f.length ∧ iv = .int .i64 k ∧ cv = .int .i64 cu ∧ -1 ≤ cu ∧ cu ≤ left - 1 ∧ Hid (r = roomF (f.drop k) cu (depth - 1)) ∧ Below wo.heap.size wo wr) (fun _ iv _ => f.length - (intOf iv).toNat)
        case atStart => exact ⟨0, cur, by omega, rfl, rfl, by omega, by omega, by unfold Hid; rw [HF.out, HC2.out, List.drop_zero], Below.refl _ _⟩
        case round =>
          clear HF HC2
          obtain ⟨wq, rfl⟩ : ∃ wq : World, wq = wr := ⟨_, rfl⟩
          obtain ⟨k, cu, hk, rfl, rfl, hcl, hcu, HC, hbw⟩ := hrel
          obtain ⟨⟨x0, x1, x2, x3, x4, x5, x6, x7, x8, x9, x10, x11, x12⟩, xf⟩ := box13 ((hbw.block w.heap.size HZ2.out).trans HX2.out)
          clear x0 x1 x2 x3 x4 x5 x6 x7 x8 x9 x10 xf
          obtain ⟨q, hq⟩ : ∃ q : Bool, q = decide (k < f.length ∧ 0 ≤ cu) := ⟨_, rfl⟩
          have HQ := Lib.hid hq
          clear hq
          go_upto_region 9 with fail
          go_cut [55] (fun v wx => v = .bool q ∧ wq = wx)
          case first =>
            by_cases hlt : k < f.length
            case neg =>
              obtain rfl : q = false := by rw [HQ.out]; exact decide_eq_false (fun h => hlt h.1)
              go_wp2_with fail
              go_meet
              exact ⟨rfl, rfl⟩
            case pos =>
              by_cases hc : 0 ≤ cu
              case pos =>
                obtain rfl : q = true := by rw [HQ.out]; exact decide_eq_true ⟨hlt, hc⟩
                go_wp2_with fail
                go_meet
                exact ⟨rfl, rfl⟩
              case neg =>
                obtain rfl : q = false := by rw [HQ.out]; exact decide_eq_false (fun h => hc h.2)
                go_wp2_with fail
                go_meet
                exact ⟨rfl, rfl⟩
          case rest =>
          obtain ⟨rfl, rfl⟩ := hcut
          cases q with
          | true =>
            obtain ⟨hlt, hc⟩ := of_decide_eq_true HQ.out.symm
            clear HQ
            obtain ⟨g, o, rfl, hg, hat⟩ := HFc.out (by omega)
            have hbw0 : Below w.heap.size w wq := HB2.out.trans (hbw.mono (by have := HZ2.out; omega))
            have hrd := (HFi.out k hlt).stays hbw0
            have hsz := HSF.out k hlt
            have hnn := HN.out
            have hc13 : ∀ j, j < 13 → wq.cell? ⟨g, o + k * 14 + 1 + j, none⟩ = (fc k).cells[j]? := fun j hj => by have := (hbw0.cell hg).trans (hat k hlt (j + 1) (by omega)); rw [show o + k * 14 + 1 + j = o + k * 14 + (j + 1) by omega]; exact this
            have HIH := Lib.hid (IH.out f[k].2 (fc k) wq cu (depth - 1) (by omega) (by omega) (by omega) (by omega) (by omega) hrd)
            have HS : Hid (r = roomF (f.drop (k + 1)) (roomV f[k].2 cu (depth - 1)) (depth - 1)) := by unfold Hid; rw [HC.out, roomF_drop f k hlt _ _ hc]
            have hbd := roomV_bd _ f[k].2 cu (depth - 1) (Nat.le_refl _) hc
            have hfm := hrd.forms
            clear hat hrd hsz hnn HC
            generalize roomV f[k].2 cu (depth - 1) = r2 at *
            generalize fc k = c at *
            obtain ⟨⟨p0, p1, p2, p3, p4, p5, p6, p7, p8, p9, p10⟩, q1, q2, q3, n1, n2, n3, m1, m2, m3, rfl⟩ := hfm
            obtain ⟨c0, c1, c2, c3, c4, c5, c6, c7, c8, c9, c10, c11, c12⟩ := cells13 hc13
            simp only at c0 c1 c2 c3 c4 c5 c6 c7 c8 c9 c10 c11 c12
            clear hc13
            obtain ⟨hb1, hb2⟩ := hbd
            go_wp2_with fail
            refine HIH.out.mono ?_
            rintro e w4 ⟨rfl, hb5⟩
            have hb6 := hbw.trans (hb5.mono hbw.size)
            go_wp2_with fail
            exact ⟨⟨k + 1, r2, by omega, rfl, rfl, hb1, by omega, HS, hb6⟩, by simp [intOf]; omega⟩
          | false =>
            have HC2 : Hid (r = cu) := by
              unfold Hid
              rw [HC.out]
              have := of_decide_eq_false HQ.out.symm
              by_cases hlt : k < f.length
              · exact roomF_neg _ _ _ (by omega)
              · rw [List.drop_of_length_le (by omega), roomF]
            have hbf := HB2.out.trans (hbw.mono (Nat.le_of_lt HZ2.out))
            clear HC HQ
            go_wp2_with fail
            go_ret
            exact ⟨by rw [HC2.out]; rfl, hbf⟩
theorem Small_any (v : V) (c : VC) (w : World) (left depth : Int) (h0 : 0 ≤ left) (h1 : left ≤ 1000000) (hd0 : 0 ≤ depth) (hd1 : depth ≤ 1000) (hv : RdV w c v) :
    Calls Tryz.prog 12 #[aggV c, .int .i64 left, .int .i64 depth] w fun e w' => e = .returned (.bool (decide (0 ≤ roomV v left depth))) ∧ Below w.heap.size w w' := by
  obtain ⟨h, a1, a2, a3, n1, n2, n3, m1, m2, m3, rfl⟩ := hv.forms
  have HV := Lib.hid hv
  clear hv
  simp only [aggV]
  go_enter Tryz.func12, Tryz.ntmps12
  go_wp2_with fail
  refine (room_any _ v ⟨h, .slice a1 n1 m1, .slice a2 n2 m2, .slice a3 n3 m3⟩ _ left depth (Nat.le_refl _) h0 h1 hd0 hd1 (HV.out.stays ((Below.refl _ _).alloc (Nat.le_refl _) _))).mono ?_
  rintro e w1 ⟨rfl, hb⟩
  have hb2 : Below w.heap.size w w1 := ((Below.refl _ _).alloc (Nat.le_refl _) _).trans (hb.mono (by simp))
  go_wp2_with fail
  go_ret
  exact ⟨rfl, hb2⟩
end Go.Proofs.YthdninnjjmhpfaaGreatDoor

namespace Go.Proofs.YthdninnjjmhpfaaGreatDoor
open Go.RowKit
set_option maxHeartbeats 4000000
set_option maxRecDepth 100000

theorem few_any (v : Value) (xs : List Ch) (w : World) (hv : RdL w v xs) :
    Calls Tryz.prog 8 #[v] w fun e w' => e = .returned (.bool (fewB xs)) ∧ Below w.heap.size w w' := by
  obtain ⟨cc, ⟨a, cap, rfl, h1, ⟨h2, _⟩, h3, h4⟩, hc⟩ := hv
  have HA := Lib.hid h4
  have HC := Lib.hid hc
  clear h4 h3 hc
  obtain ⟨r, hr⟩ : ∃ r, r = fewB xs := ⟨_, rfl⟩
  rw [← hr]
  unfold fewB at hr
  have HR := Lib.hid hr; clear hr
  by_cases h0 : xs.length ≤ 30
  case neg =>
    have HF : Hid (r = false) := by unfold Hid; rw [HR.out, decide_eq_false h0]; rfl
    clear HR
    have h0i : (30 : Int) < xs.length := by omega
    clear h0
    go_enter Tryz.func8, Tryz.ntmps8
    go_wp2_with fail
    go_ret
    exact ⟨rb HF.out.symm, Below.refl _ _⟩
  have HR2 : Hid (r = (xs.drop 0).all fewOne) := by unfold Hid; rw [HR.out, decide_eq_true h0, Bool.true_and, List.drop_zero]
  clear HR
  have h0i : ¬ (30 : Int) < xs.length := by omega
  go_enter Tryz.func8, Tryz.ntmps8
  go_wp2_with fail
  clear h0 h0i
  go_loopw [3] (fun i wr => ∃ k : Nat, k ≤ xs.length ∧ i = .int .i64 k ∧ Hid (r = (xs.drop k).all fewOne) ∧ Below w.heap.size w wr) (fun i _ => xs.length - (intOf i).toNat)
  case atStart => exact ⟨0, Nat.zero_le _, rfl, HR2.out, Below.refl _ _⟩
  case round =>
    clear HR2
    obtain ⟨k, hk, rfl, HR, hbw⟩ := hrel
    by_cases hlt : k < xs.length
    case neg =>
      have HF : Hid (r = true) := by unfold Hid; rw [HR.out, List.drop_of_length_le (by omega)]; rfl
      clear HR
      go_wp2_with fail
      go_ret
      exact ⟨rb HF.out.symm, hbw⟩
    obtain ⟨g, o, rfl, hg, hat⟩ := HA.out (by omega)
    have hrd := HC.out k hlt
    obtain ⟨b0, b1, b2, hbo, hbn⟩ := cells29 (w := w) (g := g) (o := o + k * 29) (c := cc k) (fun j hj => hat k hlt j hj)
    have HS : Hid (r = (fewOne xs[k] && (xs.drop (k + 1)).all fewOne)) := by unfold Hid; rw [HR.out, all_dropC _ _ hlt]
    have HO := Lib.hid (fun w' (hb : Below w.heap.size w w') => Small_any xs[k].o (cc k).o w' 150 60 (by decide) (by decide) (by decide) (by decide) (hrd.o.stays hb))
    have HN := Lib.hid (fun w' (hb : Below w.heap.size w w') => Small_any xs[k].n (cc k).n w' 150 60 (by decide) (by decide) (by decide) (by decide) (hrd.n.stays hb))
    have hfo := hrd.o.forms
    have hfn := hrd.n.forms
    have hfp : ∃ a cap, (cc k).p = .slice a xs[k].p.length cap := by obtain ⟨a, cap, e, _⟩ := hrd.p; exact ⟨a, cap, e⟩
    clear HR hat hrd
    unfold fewOne at HS
    generalize decide (0 ≤ roomV xs[k].o 150 60) = qo at *
    generalize decide (0 ≤ roomV xs[k].n 150 60) = qn at *
    generalize xs[k] = x at *
    generalize cc k = c at *
    obtain ⟨cop, cp, cpos, co, cn⟩ := c
    obtain ⟨pa, pcap, hfp⟩ := hfp
    simp only at hfp hfo hfn HO HN b0 b1 b2 hbo hbn
    subst hfp
    obtain ⟨⟨p0, p1, p2, p3, p4, p5, p6, p7, p8, p9, p10⟩, s1, s2, s3, n1, n2, n3, m1, m2, m3, rfl⟩ := hfo
    obtain ⟨⟨q0, q1, q2, q3, q4, q5, q6, q7, q8, q9, q10⟩, t1, t2, t3, i1, i2, i3, j1, j2, j3, rfl⟩ := hfn
    have HB0 := Lib.hid b1
    have HBN := Lib.hid hbn
    have hbo1 := fun j hj => (hbw.cell hg).trans (hbo j hj)
    obtain ⟨c0, c1, c2, c3, c4, c5, c6, c7, c8, c9, c10, c11, c12⟩ := cells13 hbo1
    simp only at c0 c1 c2 c3 c4 c5 c6 c7 c8 c9 c10 c11 c12
    clear hbo1 hbo hbn b0 b1 b2
    have hbw0 := Lib.hid hbw
    go_wp2_with fail
    refine (HO.out _ hbw).mono ?_
    rintro e w2 ⟨rfl, hb⟩
    have hbw2 := hbw0.out.trans (hb.mono hbw0.out.size)
    clear c0 c1 c2 c3 c4 c5 c6 c7 c8 c9 c10 c11 c12 hb hbw hbw0 HO
    cases qo with
    | false =>
      have HF : Hid (r = false) := HS.out
      clear HS
      go_wp2_with fail
      go_ret
      exact ⟨rb HF.out.symm, hbw2⟩
    | true =>
    have hbn2 := fun j hj => (hbw2.cell hg).trans (HBN.out j hj)
    obtain ⟨c0, c1, c2, c3, c4, c5, c6, c7, c8, c9, c10, c11, c12⟩ := cells13 hbn2
    simp only at c0 c1 c2 c3 c4 c5 c6 c7 c8 c9 c10 c11 c12
    clear hbn2
    go_wp2_with fail
    refine (HN.out _ hbw2).mono ?_
    rintro e w3 ⟨rfl, hb⟩
    have hbw3 := hbw2.trans (hb.mono hbw2.size)
    clear c0 c1 c2 c3 c4 c5 c6 c7 c8 c9 c10 c11 c12 hb hbw2 HN
    cases qn with
    | false =>
      have HF : Hid (r = false) := HS.out
      clear HS
      go_wp2_with fail
      go_ret
      exact ⟨rb HF.out.symm, hbw3⟩
    | true =>
    have d1 := (hbw3.cell hg).trans HB0.out
    by_cases hp : x.p.length ≤ 60
    · have HF : Hid (r = (xs.drop (k + 1)).all fewOne) := by unfold Hid; rw [HS.out, decide_eq_true hp]; rfl
      have hpi : ¬ (60 : Int) < x.p.length := by omega
      clear HS hp
      go_wp2_with fail
      exact ⟨⟨k + 1, by omega, rfl, HF, hbw3⟩, by simp [intOf]; omega⟩
    · have HF : Hid (r = false) := by unfold Hid; rw [HS.out, decide_eq_false hp]; rfl
      have hpi : (60 : Int) < x.p.length := by omega
      clear HS hp
      go_wp2_with fail
      go_ret
      exact ⟨rb HF.out.symm, hbw3⟩
def sameC (x y : Ch) : Bool := decide (x.op = y.op) && (decide (x.pos = y.pos) && (decide (x.p = y.p) && (eqV x.o y.o && eqV x.n y.n)))
theorem sameC_self (x : Ch) : sameC x x = true := by
  unfold sameC
  rw [eqV_self, eqV_self]
  simp
/-- A box of a change. -/
theorem box29 {w : World} {g : Nat} {t : TypeId} {a0 a1 a2 a3 a4 a5 a6 a7 a8 a9 a10 a11 a12 a13 a14 a15 a16 a17 a18 a19 a20 a21 a22 a23 a24 a25 a26 a27 a28 : Value} (h : w.heap[g]? = some (.cells #[a0, a1, a2, a3, a4, a5, a6, a7, a8, a9, a10, a11, a12, a13, a14, a15, a16, a17, a18, a19, a20, a21, a22, a23, a24, a25, a26, a27, a28] t (0, 0))) :
    ((w.cell? ⟨g, 0, none⟩ = some a0 ∧ w.cell? ⟨g, 1, none⟩ = some a1 ∧ w.cell? ⟨g, 2, none⟩ = some a2) ∧
    (w.cell? ⟨g, 3, none⟩ = some a3 ∧ w.cell? ⟨g, 4, none⟩ = some a4 ∧ w.cell? ⟨g, 5, none⟩ = some a5 ∧ w.cell? ⟨g, 6, none⟩ = some a6 ∧ w.cell? ⟨g, 7, none⟩ = some a7 ∧ w.cell? ⟨g, 8, none⟩ = some a8 ∧ w.cell? ⟨g, 9, none⟩ = some a9 ∧
      w.cell? ⟨g, 10, none⟩ = some a10 ∧ w.cell? ⟨g, 11, none⟩ = some a11 ∧ w.cell? ⟨g, 12, none⟩ = some a12 ∧ w.cell? ⟨g, 13, none⟩ = some a13 ∧ w.cell? ⟨g, 14, none⟩ = some a14 ∧ w.cell? ⟨g, 15, none⟩ = some a15) ∧
    (w.cell? ⟨g, 16, none⟩ = some a16 ∧ w.cell? ⟨g, 17, none⟩ = some a17 ∧ w.cell? ⟨g, 18, none⟩ = some a18 ∧ w.cell? ⟨g, 19, none⟩ = some a19 ∧ w.cell? ⟨g, 20, none⟩ = some a20 ∧ w.cell? ⟨g, 21, none⟩ = some a21 ∧ w.cell? ⟨g, 22, none⟩ = some a22 ∧
      w.cell? ⟨g, 23, none⟩ = some a23 ∧ w.cell? ⟨g, 24, none⟩ = some a24 ∧ w.cell? ⟨g, 25, none⟩ = some a25 ∧ w.cell? ⟨g, 26, none⟩ = some a26 ∧ w.cell? ⟨g, 27, none⟩ = some a27 ∧ w.cell? ⟨g, 28, none⟩ = some a28)) ∧ (∀ j, w.frozen? ⟨g, j, none⟩ = false) := by
  refine ⟨⟨⟨?_, ?_, ?_⟩, ⟨?_, ?_, ?_, ?_, ?_, ?_, ?_, ?_, ?_, ?_, ?_, ?_, ?_⟩, ⟨?_, ?_, ?_, ?_, ?_, ?_, ?_, ?_, ?_, ?_, ?_, ?_, ?_⟩⟩, fun j => ?_⟩
  all_goals first
    | exact (cell_of_row w g _ _ t (0, 0) h).trans rfl
    | (simp [World.frozen?, h])
theorem two_held {w w1 : World} {x y : Obj} (hb : Below ((w.alloc x).alloc y).heap.size ((w.alloc x).alloc y) w1) : Below w.heap.size w w1 ∧ w1.heap[w.heap.size]? = some x ∧ w1.heap[w.heap.size + 1]? = some y ∧ w.heap.size + 2 ≤ w1.heap.size := two_allocs hb
theorem RdC.forms {w : World} {S : Nat → Prop} {c : CC} {x : Ch} (h : RdC w S c x) : ∃ (op pos : Int) (a0 : Option Addr) (n0 m0 : Nat) (h h' : Hd) (a1 a2 a3 b1 b2 b3 : Option Addr) (n1 n2 n3 m1 m2 m3 i1 i2 i3 j1 j2 j3 : Nat),
    c = ⟨op, .slice a0 n0 m0, pos, ⟨h, .slice a1 n1 m1, .slice a2 n2 m2, .slice a3 n3 m3⟩, ⟨h', .slice b1 i1 j1, .slice b2 i2 j2, .slice b3 i3 j3⟩⟩ := by
  obtain ⟨op, p, pos, o, n⟩ := c
  obtain ⟨a0, m0, hp, _⟩ := h.p
  obtain ⟨h1, a1, a2, a3, n1, n2, n3, m1, m2, m3, ho⟩ := h.o.forms
  obtain ⟨h2, b1, b2, b3, i1, i2, i3, j1, j2, j3, hn⟩ := h.n.forms
  simp only at hp ho hn
  subst hp ho hn
  exact ⟨_, _, _, _, _, _, _, _, _, _, _, _, _, _, _, _, _, _, _, _, _, _, _, _, _, rfl⟩
theorem SameChange_any (ca cb : CC) (x y : Ch) (w : World) (hx : RdC w (fun _ => True) ca x) (hy : RdC w (fun _ => True) cb y) :
    Calls Tryz.prog 21 #[aggC ca, aggC cb] w fun e w' => e = .returned (.bool (sameC x y)) ∧ Below w.heap.size w w' := by
  have HP := Lib.hid (fun w' (hb : Below w.heap.size w w') => REqual_any ca.p cb.p x.p y.p w' (hx.p.below hb) (hy.p.below hb))
  have HO := Lib.hid (fun w' (hb : Below w.heap.size w w') => RSame_any _ x.o y.o ca.o cb.o w' (Nat.le_refl _) (hx.o.stays hb) (hy.o.stays hb))
  have HN := Lib.hid (fun w' (hb : Below w.heap.size w w') => RSame_any _ x.n y.n ca.n cb.n w' (Nat.le_refl _) (hx.n.stays hb) (hy.n.stays hb))
  obtain ⟨r, hr⟩ : ∃ r, r = sameC x y := ⟨_, rfl⟩
  rw [← hr]
  unfold sameC at hr
  have eop := hx.op
  have epos := hx.pos
  have fop := hy.op
  have fpos := hy.pos
  rw [← eop, ← epos, ← fop, ← fpos] at hr
  generalize decide (x.p = y.p) = qp at *
  generalize eqV x.o y.o = qo at *
  generalize eqV x.n y.n = qn at *
  obtain ⟨op, pos, a0, n0, m0, ⟨p0, p1, p2, p3, p4, p5, p6, p7, p8, p9, p10⟩, ⟨q0, q1, q2, q3, q4, q5, q6, q7, q8, q9, q10⟩, a1, a2, a3, b1, b2, b3, n1, n2, n3, m1, m2, m3, i1, i2, i3, j1, j2, j3, rfl⟩ := hx.forms
  obtain ⟨op', pos', a0', n0', m0', ⟨p0', p1', p2', p3', p4', p5', p6', p7', p8', p9', p10'⟩, ⟨q0', q1', q2', q3', q4', q5', q6', q7', q8', q9', q10'⟩, a1', a2', a3', b1', b2', b3', n1', n2', n3', m1', m2', m3', i1', i2', i3', j1', j2', j3', rfl⟩ := hy.forms
  simp only at hr
  have HR := Lib.hid hr
  have hb2 : ∀ x y, Below w.heap.size w ((w.alloc x).alloc y) := fun x y => ((Below.refl _ w).alloc (Nat.le_refl _) _).alloc (by simp) _
  have HB2 := Lib.hid hb2
  clear hx hy hr eop epos fop fpos hb2
  simp only [aggC, aggV] at HP HO HN ⊢
  by_cases e1 : op = op'
  case neg =>
    have HF : Hid (r = false) := by unfold Hid; rw [HR.out, decide_eq_false e1]; rfl
    have hq : (op == op') = false := by rw [beq_eq_false_iff_ne]; exact e1
    clear HR e1
    go_enter Tryz.func21, Tryz.ntmps21
    go_wp2_with fail
    go_ret
    exact ⟨rb HF.out.symm, HB2.out _ _⟩
  subst e1
  by_cases e2 : pos = pos'
  case neg =>
    have HF : Hid (r = false) := by unfold Hid; rw [HR.out, decide_eq_true rfl, decide_eq_false e2]; rfl
    have hq : (pos == pos') = false := by rw [beq_eq_false_iff_ne]; exact e2
    clear HR e2
    go_enter Tryz.func21, Tryz.ntmps21
    go_wp2_with fail
    go_ret
    exact ⟨rb HF.out.symm, HB2.out _ _⟩
  subst e2
  have HR2 : Hid (r = (qp && (qo && qn))) := by unfold Hid; rw [HR.out, decide_eq_true rfl, decide_eq_true rfl, Bool.true_and, Bool.true_and]
  clear HR
  go_enter Tryz.func21, Tryz.ntmps21
  go_wp2_with fail
  refine (HP.out _ (HB2.out _ _)).mono ?_
  rintro e w1 ⟨rfl, hb⟩
  obtain ⟨hbw, hx, hy, hz⟩ := two_held hb
  have HX := Lib.hid hx
  have HY := Lib.hid hy
  clear hx hy hb HP HB2
  cases qp with
  | false =>
    have HF : Hid (r = false) := HR2.out
    clear HR2
    go_wp2_with fail
    go_ret
    exact ⟨rb HF.out.symm, hbw⟩
  | true =>
  obtain ⟨⟨_, ⟨x3, x4, x5, x6, x7, x8, x9, x10, x11, x12, x13, x14, x15⟩, _⟩, xf⟩ := box29 HX.out
  obtain ⟨⟨_, ⟨y3, y4, y5, y6, y7, y8, y9, y10, y11, y12, y13, y14, y15⟩, _⟩, yf⟩ := box29 HY.out
  clear xf yf
  go_wp2_with fail
  refine (HO.out _ hbw).mono ?_
  rintro e w2 ⟨rfl, hb⟩
  have hbw2 := hbw.trans (hb.mono hbw.size)
  have HX2 := Lib.hid ((hb.block _ (by omega)).trans HX.out)
  have HY2 := Lib.hid ((hb.block _ (by omega)).trans HY.out)
  clear hb hbw HX HY HO hz x3 x4 x5 x6 x7 x8 x9 x10 x11 x12 x13 x14 x15 y3 y4 y5 y6 y7 y8 y9 y10 y11 y12 y13 y14 y15
  cases qo with
  | false =>
    have HF : Hid (r = false) := HR2.out
    clear HR2
    go_wp2_with fail
    go_ret
    exact ⟨rb HF.out.symm, hbw2⟩
  | true =>
  obtain ⟨⟨_, _, ⟨x3, x4, x5, x6, x7, x8, x9, x10, x11, x12, x13, x14, x15⟩⟩, xf⟩ := box29 HX2.out
  obtain ⟨⟨_, _, ⟨y3, y4, y5, y6, y7, y8, y9, y10, y11, y12, y13, y14, y15⟩⟩, yf⟩ := box29 HY2.out
  clear xf yf
  go_wp2_with fail
  refine (HN.out _ hbw2).mono ?_
  rintro e w3 ⟨rfl, hb⟩
  have hbw3 := hbw2.trans (hb.mono hbw2.size)
  have HF : Hid (r = qn) := HR2.out
  clear HR2 hb hbw2 HX2 HY2
  go_wp2_with fail
  go_ret
  exact ⟨rb HF.out.symm, hbw3⟩
end Go.Proofs.YthdninnjjmhpfaaGreatDoor

namespace Go.Proofs.YthdninnjjmhpfaaGreatDoor
open Go.RowKit
set_option maxHeartbeats 4000000
set_option maxRecDepth 100000

theorem stC : StT Tryz.prog 54 29 := ⟨by kernel_rfl, by kernel_rfl⟩
theorem stV : StT Tryz.prog 30 13 := ⟨by kernel_rfl, by kernel_rfl⟩
theorem drewB (w : World) : Below w.heap.size w w.drew := ⟨rfl, rfl, rfl, Nat.le_refl _, fun _ _ => rfl⟩
theorem Same55_any (v u : Value) (xs : List Ch) (w : World) (hv : RdL w v xs) (hu : RdL w u xs) :
    Calls Tryz.prog 16 #[v, u] w fun e w' => e = .returned (.bool true) ∧ Below w.heap.size w w' := by
  obtain ⟨cc, ⟨a, cap, rfl, h1, ⟨h2, _⟩, h3, h4⟩, hc⟩ := hv
  obtain ⟨cc', ⟨a', cap', rfl, h1', ⟨h2', _⟩, h3', h4'⟩, hc'⟩ := hu
  have HA := Lib.hid h4
  have HA' := Lib.hid h4'
  have HC := Lib.hid hc
  have HC' := Lib.hid hc'
  clear h4 h3 hc h4' h3' hc'
  have hq : ((xs.length : Int) != xs.length) = false := by rw [bne_eq_false_iff_eq]
  go_enter Tryz.func16, Tryz.ntmps16
  go_wp2_with fail
  clear hq
  go_loopw [5] (fun i wr => ∃ k : Nat, k ≤ xs.length ∧ i = .int .i64 k ∧ Below w.heap.size w wr) (fun i _ => xs.length - (intOf i).toNat)
  case atStart => exact ⟨0, Nat.zero_le _, rfl, Below.refl _ _⟩
  case round =>
    obtain ⟨k, hk, rfl, hbw⟩ := hrel
    by_cases hlt : k < xs.length
    case neg =>
      go_wp2_with fail
      go_ret
      exact ⟨rfl, hbw⟩
    obtain ⟨g, o, rfl, hg, hat⟩ := HA.out (by omega)
    obtain ⟨g', o', rfl, hg', hat'⟩ := HA'.out (by omega)
    have hrd := HC.out k hlt
    have hrd' := HC'.out k hlt
    have HS : Hid (∀ w', Below w.heap.size w w' → Calls Tryz.prog 21 #[aggC (cc k), aggC (cc' k)] w' fun e w2 => e = .returned (.bool true) ∧ Below w'.heap.size w' w2) := fun w' hb => by
      have := SameChange_any (cc k) (cc' k) xs[k] xs[k] w' (hrd.stays hb) (hrd'.stays hb)
      rw [sameC_self] at this
      exact this
    have hc29 := fun j hj => (hbw.cell hg).trans (hat k hlt j hj)
    have hd29 := fun j hj => (hbw.cell hg').trans (hat' k hlt j hj)
    clear hat hat' hrd hrd'
    generalize cc k = c at *
    generalize cc' k = c' at *
    have HX := Lib.hid hc29
    have HY := Lib.hid hd29
    clear hc29 hd29
    go_wp2_with fail
    refine wp_region_still_tail 8 (by kernel_rfl) (by kernel_rfl) ?_
    simp only [List.take_succ_cons, List.take_zero, List.drop_succ_cons, List.drop_zero]
    iterate 3 still_step
    refine still_load stC (ccells_len c) g (o + k * 29) HX.out rfl _ rfl rfl ?_
    iterate 3 still_step
    refine still_load stC (ccells_len c') g' (o' + k * 29) HY.out rfl _ rfl rfl ?_
    refine wpStill_nil ?_
    change wpList _ _ _ _ _ wr.drew
    have hbw3 : Below w.heap.size w wr.drew := hbw.trans ((drewB wr).mono hbw.size)
    clear HX HY hbw
    generalize wr.drew = w3 at *
    have HC3 := Lib.hid (HS.out w3 hbw3)
    clear HS
    go_wp2_with fail
    refine HC3.out.mono ?_
    rintro ee w4 ⟨rfl, hb4⟩
    have hbw4 := hbw3.trans (hb4.mono hbw3.size)
    clear HC3 hbw3 hb4
    go_wp2_with fail
    exact ⟨⟨k + 1, by omega, rfl, hbw4⟩, by simp [intOf]; omega⟩
end Go.Proofs.YthdninnjjmhpfaaGreatDoor

namespace Go.Proofs.YthdninnjjmhpfaaGreatDoor
open Go.RowKit
set_option maxHeartbeats 4000000
set_option maxRecDepth 100000

/-- What a copy of a change hands back. -/
def ClPost (w : World) (x : Ch) (e : Ending) (w' : World) : Prop := ∃ c, e = .returned (aggC c) ∧ RdC w' (fun b => w.heap.size ≤ b) c x ∧ Below w.heap.size w w'
theorem vcells_one {w : World} {S : Nat → Prop} {c : VC} {v : V} (h : RdI w S c v) : ∀ u ∈ c.cells, u.oneCell' = true := by
  intro u hu
  obtain ⟨h, b1, b2, b3, m1, m2, m3, o1, o2, o3, rfl⟩ := h.forms
  simp [VC.cells] at hu
  rcases hu with rfl | rfl | rfl | rfl | rfl | rfl | rfl | rfl | rfl | rfl | rfl | rfl | rfl <;> rfl
theorem ccells_one {w : World} {S : Nat → Prop} {c : CC} {x : Ch} (h : RdC w S c x) : ∀ u ∈ c.cells, u.oneCell' = true := by
  intro u hu
  obtain ⟨a0, m0, hp, _⟩ := h.p
  unfold CC.cells at hu
  rcases List.mem_cons.1 hu with rfl | hu
  · rfl
  rcases List.mem_cons.1 hu with rfl | hu
  · rw [hp]; rfl
  rcases List.mem_cons.1 hu with rfl | hu
  · rfl
  rcases List.mem_append.1 hu with hu | hu
  · exact vcells_one h.o u hu
  · exact vcells_one h.n u hu
theorem alloc2_of {w w0 : World} {X Y : Obj} (h : (w.alloc X).alloc Y = w0) : Below w.heap.size w w0 ∧ w0.heap[w.heap.size]? = some X ∧ w0.heap[w.heap.size + 1]? = some Y ∧ w0.heap.size = w.heap.size + 2 := by
  obtain ⟨h1, h2, h3, _⟩ := two_allocs (w := w) (x := X) (y := Y) (w1 := (w.alloc X).alloc Y) (Below.refl _ _)
  rw [h] at h1 h2 h3
  exact ⟨h1, h2, h3, by rw [← h]; simp⟩
theorem own_form {w : World} {base size n : Nat} {e : TypeId} {v : Value} {xs : List Value} (h : w.ownsRow base e size v n xs) : ∃ a cap, v = .slice a n cap := by
  rcases h.2 with ⟨rfl, rfl⟩ | ⟨g, cap, cur, rfl, _⟩
  · exact ⟨none, 0, rfl⟩
  · exact ⟨_, _, rfl⟩
/-- Thirteen stores in a row, as the walk lays them. -/
theorem put13 {w : World} {g : Nat} (off : Nat) {cs : Array Value} {t : TypeId} (u0 u1 u2 u3 u4 u5 u6 u7 u8 u9 u10 u11 u12 : Value) (h : w.heap[g]? = some (.cells cs t (0, 0))) :
    (((((((((((((w.setCell ⟨g, off, none⟩ u0).setCell ⟨g, off + 1, none⟩ u1).setCell ⟨g, off + 2, none⟩ u2).setCell ⟨g, off + 3, none⟩ u3).setCell ⟨g, off + 4, none⟩ u4).setCell ⟨g, off + 5, none⟩ u5).setCell ⟨g, off + 6, none⟩ u6).setCell ⟨g, off + 7, none⟩ u7).setCell ⟨g, off + 8, none⟩ u8).setCell ⟨g, off + 9, none⟩ u9).setCell ⟨g, off + 10, none⟩ u10).setCell ⟨g, off + 11, none⟩ u11).setCell ⟨g, off + 12, none⟩ u12).heap[g]? = some (.cells (((((((((((((cs.setIfInBounds (off) u0).setIfInBounds (off + 1) u1).setIfInBounds (off + 2) u2).setIfInBounds (off + 3) u3).setIfInBounds (off + 4) u4).setIfInBounds (off + 5) u5).setIfInBounds (off + 6) u6).setIfInBounds (off + 7) u7).setIfInBounds (off + 8) u8).setIfInBounds (off + 9) u9).setIfInBounds (off + 10) u10).setIfInBounds (off + 11) u11).setIfInBounds (off + 12) u12) t (0, 0)) := by
  iterate 13 refine heap_setCell_same _ _ _ _ _ _ ?_
  exact h
theorem clone_any (c : CC) (x : Ch) (w : World) (hno : nodV x.o ≤ 1000000) (hdo : depV x.o ≤ 65536) (hnn : nodV x.n ≤ 1000000) (hdn : depV x.n ≤ 65536) (hpl : x.p.length ≤ 1000000) (hx : RdC w (fun _ => True) c x) :
    Calls Tryz.prog 45 #[aggC c] w (ClPost w x) := by
  have HX := Lib.hid hx
  have HO := Lib.hid (fun w' (hb : Below w.heap.size w w') => Copy_any x.o c.o w' hno hdo (hx.o.stays hb))
  have HN := Lib.hid (fun w' (hb : Below w.heap.size w w') => Copy_any x.n c.n w' hnn hdn (hx.n.stays hb))
  obtain ⟨op, pos, a0, n0, m0, ⟨p0, p1, p2, p3, p4, p5, p6, p7, p8, p9, p10⟩, ⟨q0, q1, q2, q3, q4, q5, q6, q7, q8, q9, q10⟩, a1, a2, a3, b1, b2, b3, n1, n2, n3, m1, m2, m3, i1, i2, i3, j1, j2, j3, rfl⟩ := hx.forms
  have HP := Lib.hid (fun w' (hb : Below w.heap.size w w') => hx.p.below hb)
  clear hx
  simp only [aggC, aggV] at HO HN HP ⊢
  go_enter Tryz.func45, Tryz.ntmps45
  go_upto_region 1 with fail
  generalize hW : (w.alloc _).alloc _ = w0
  obtain ⟨hb0, hx0, hy0, hz0⟩ := alloc2_of hW
  clear hW
  have hown := own_empty w0 94
  rw [hz0] at hown
  have HP0 := Lib.hid (HP.out _ (hb0.trans (((Below.refl _ w0).alloc (Nat.le_refl _) (.cells #[] 94)).mono (by omega))))
  obtain ⟨⟨⟨x0, x1, x2⟩, ⟨x3, x4, x5, x6, x7, x8, x9, x10, x11, x12, x13, x14, x15⟩, ⟨x16, x17, x18, x19, x20, x21, x22, x23, x24, x25, x26, x27, x28⟩⟩, xf⟩ := box29 hx0
  have HX0 := Lib.hid hx0
  have HY0 := Lib.hid hy0
  have HB0 := Lib.hid hb0
  clear HP hx0 hy0 hb0 x0 x2 x3 x4 x5 x6 x7 x8 x9 x10 x11 x12 x13 x14 x15 x16 x17 x18 x19 x20 x21 x22 x23 x24 x25 x26 x27 x28
  go_upto_region 2 with (at_builtin; refine wp_appendRd elem_step rfl _ _ rfl hown HP0.out rfl rfl (by omega) (by simp [hz0]) ?_; intro v1 w1 hown1 hg1 hb1; obtain ⟨va, vcap, rfl⟩ := own_form hown1; have hb2 := (((Below.refl _ w0).alloc (Nat.le_refl _) (.cells #[] 94)).mono (by omega)).trans hb1; have hx1 := (hb2.block w.heap.size (by omega)).trans HX0.out; have hx2 := Lib.hid hx1; obtain ⟨⟨⟨x0, x1, x2⟩, _⟩, xf⟩ := box29 hx1; clear hx1 x0 x2)
  rw [Nat.zero_add, List.nil_append] at hown1
  have hrow := heap_setCell_same w1 w.heap.size 1 _ _ (.slice va x.p.length vcap) hx2.out
  simp only [List.setIfInBounds_toArray, List.set_cons_succ, List.set_cons_zero] at hrow
  have hy1 := ((heap_setCell_other w1 ⟨w.heap.size, 1, none⟩ (w.heap.size + 1) (.slice va x.p.length vcap) (by dsimp only; omega)).trans (hb2.block _ (by omega))).trans HY0.out
  have hb3 : Below w.heap.size w (w1.setCell ⟨w.heap.size, 1, none⟩ (.slice va x.p.length vcap)) := (HB0.out.trans (hb2.mono (by omega))).setCell (p := ⟨w.heap.size, 1, none⟩) (Nat.le_refl _) _
  have hz3 : w.heap.size + 2 ≤ (w1.setCell ⟨w.heap.size, 1, none⟩ (.slice va x.p.length vcap)).heap.size := by rw [World.size_setCell]; have := hb2.size; omega
  have hpv : Rd (w1.setCell ⟨w.heap.size, 1, none⟩ (.slice va x.p.length vcap)) (.slice va x.p.length vcap) x.p := (Rd.of_own hown1).kept (BlkIn.of_own hown1) (fun b hb _ => heap_setCell_other w1 _ b _ (by dsimp only; omega)) (by simp)
  have HBK := Lib.hid (BlkIn.of_own hown1)
  have HPV := Lib.hid hpv
  clear hx2 x1 xf hown1 hg1 hb1 hb2 HX0 HY0 HB0 hz0 hpv
  generalize hW : w1.setCell _ _ = w3 at *
  clear hW
  have HX3 := Lib.hid hrow
  have HY3 := Lib.hid hy1
  have HB3 := Lib.hid hb3
  have HZ3 := Lib.hid hz3
  obtain ⟨⟨_, ⟨x3, x4, x5, x6, x7, x8, x9, x10, x11, x12, x13, x14, x15⟩, ⟨x16, x17, x18, x19, x20, x21, x22, x23, x24, x25, x26, x27, x28⟩⟩, xf⟩ := box29 hrow
  clear hrow hy1 hb3 hz3
  go_region_with (first
    | (go_at_call 24
       with_reducible refine (HO.out _ HB3.out.drew).mono ?_
       rintro e w4 ⟨c4, rfl, hr4, hb4⟩
       obtain ⟨⟨d0, d1, d2, d3, d4, d5, d6, d7, d8, d9, d10⟩, s1, s2, s3, k1, k2, k3, l1, l2, l3, rfl⟩ := hr4.forms
       have hbw4 := HB3.out.drew.trans (hb4.mono HB3.out.drew.size)
       have HX4 := Lib.hid ((hb4.block _ (by have := HZ3.out; simp; omega)).trans HX3.out)
       obtain ⟨⟨_, _, ⟨y16, y17, y18, y19, y20, y21, y22, y23, y24, y25, y26, y27, y28⟩⟩, yf⟩ := box29 HX4.out)
    | (go_at_call 24
       with_reducible refine (HN.out _ hbw4).mono ?_
       rintro e w5 ⟨c5, rfl, hr5, hb5⟩
       obtain ⟨⟨e0, e1, e2, e3, e4, e5, e6, e7, e8, e9, e10⟩, t1, t2, t3, f1, f2, f3, g1, g2, g3, rfl⟩ := hr5.forms
       have hbw5 := hbw4.trans (hb5.mono hbw4.size)
       have HX5 := Lib.hid ((hb5.block _ (by have := HZ3.out; have := hb4.size; simp at this; omega)).trans HX4.out)
       obtain ⟨⟨_, ⟨z3, z4, z5, z6, z7, z8, z9, z10, z11, z12, z13, z14, z15⟩, ⟨z16, z17, z18, z19, z20, z21, z22, z23, z24, z25, z26, z27, z28⟩⟩, zf⟩ := box29 HX5.out))
  all_goals
    generalize hW : World.setCell _ ⟨_, 28, none⟩ _ = w6
    have h6 : w6.heap[w.heap.size]? = some (.cells (CC.cells ⟨op, .slice va x.p.length vcap, pos, ⟨⟨d0, d1, d2, d3, d4, d5, d6, d7, d8, d9, d10⟩, .slice s1 k1 l1, .slice s2 k2 l2, .slice s3 k3 l3⟩, ⟨⟨e0, e1, e2, e3, e4, e5, e6, e7, e8, e9, e10⟩, .slice t1 f1 g1, .slice t2 f2 g2, .slice t3 f3 g3⟩⟩).toArray 54 (0, 0)) := by
      rw [← hW]
      refine (put13 16 _ _ _ _ _ _ _ _ _ _ _ _ _ (put13 3 _ _ _ _ _ _ _ _ _ _ _ _ _ HX5.out)).trans ?_
      simp only [List.setIfInBounds_toArray, List.set_cons_succ, List.set_cons_zero, CC.cells, VC.cells, List.cons_append, List.nil_append]
    have k6 : ∀ b, b ≠ w.heap.size → w6.heap[b]? = w5.heap[b]? := by
      intro b hb
      rw [← hW]
      repeat rw [heap_setCell_other _ _ b _ hb]
    have z6 : w6.heap.size = w5.heap.size := by rw [← hW]; simp
    have b6 : Below w.heap.size w w6 := by
      rw [← hW]
      iterate 26 refine Below.setCell ?_ (by dsimp only; omega) _
      exact hbw5
    have hz4 := hb4.size
    have hz5 := hb5.size
    have hz3 := HZ3.out
    have hy6 : w6.heap[w.heap.size + 1]? = _ := (k6 _ (by omega)).trans ((hb5.block _ (by simp at hz4; omega)).trans ((hb4.block _ (by simp; omega)).trans HY3.out))
    have hk6 : ∀ w7 : World, (∀ b, b ≠ w.heap.size → b ≠ w.heap.size + 1 → w7.heap[b]? = w6.heap[b]?) → w7.heap.size = w6.heap.size → RdC w7 (fun b => w.heap.size ≤ b) ⟨op, .slice va x.p.length vcap, pos, ⟨⟨d0, d1, d2, d3, d4, d5, d6, d7, d8, d9, d10⟩, .slice s1 k1 l1, .slice s2 k2 l2, .slice s3 k3 l3⟩, ⟨⟨e0, e1, e2, e3, e4, e5, e6, e7, e8, e9, e10⟩, .slice t1 f1 g1, .slice t2 f2 g2, .slice t3 f3 g3⟩⟩ x := by
      intro w7 h7 h7z
      have hx := HX.out
      have hall : ∀ b, w.heap.size + 2 ≤ b → w7.heap[b]? = w5.heap[b]? := fun b hb => (h7 b (by omega) (by omega)).trans (k6 b (by omega))
      refine ⟨hx.op, hx.pos, hx.iop, hx.ipos, ?_, HBK.out.mono (fun b hb => by omega), ?_, ?_⟩
      · exact HPV.out.kept HBK.out (fun b hb hb' => (hall b hb).trans ((hb5.block b (by simp at hz4; omega)).trans (hb4.block b (by simpa using hb')))) (by simp at hz4; omega)
      · exact (hr4.kept (fun b hb hb' => (hall b (by simp at hb; omega)).trans (hb5.block b hb')) (by omega)).mono (fun b hb => by simp at hb; omega)
      · exact (hr5.kept (fun b hb _ => hall b (by simp at hz4; omega)) (by omega)).mono (fun b hb => by simp at hz4; omega)
    have hone := ccells_one (hk6 w6 (fun _ _ _ => rfl) rfl)
    have hc6 : ∀ j, j < 29 → w6.cell? ⟨w.heap.size, 0 + j, none⟩ = (CC.cells ⟨op, .slice va x.p.length vcap, pos, ⟨⟨d0, d1, d2, d3, d4, d5, d6, d7, d8, d9, d10⟩, .slice s1 k1 l1, .slice s2 k2 l2, .slice s3 k3 l3⟩, ⟨⟨e0, e1, e2, e3, e4, e5, e6, e7, e8, e9, e10⟩, .slice t1 f1 g1, .slice t2 f2 g2, .slice t3 f3 g3⟩⟩)[j]? := fun j _ => by
      rw [Nat.zero_add, cell_of_row _ _ _ _ _ _ h6, List.getElem?_toArray]
    have HC6 := Lib.hid hc6
    have HK6 := Lib.hid hk6
    have HY6 := Lib.hid hy6
    have HB6 := Lib.hid b6
    have HONE := Lib.hid hone
    clear h6 k6 hy6 hk6 hone hc6
    clear hW
    clear z6 b6 hz4 hz5
    try clear x3 x4 x5 x6 x7 x8 x9 x10 x11 x12 x13 x14 x15 x16 x17 x18 x19 x20 x21 x22 x23 x24 x25 x26 x27 x28 xf
    try clear y16 y17 y18 y19 y20 y21 y22 y23 y24 y25 y26 y27 y28 yf
    try clear z3 z4 z5 z6 z7 z8 z9 z10 z11 z12 z13 z14 z15 z16 z17 z18 z19 z20 z21 z22 z23 z24 z25 z26 z27 z28 zf
    go_wp2_with (first
      | refine wp_load stC (ccells_len _) w.heap.size 0 HC6.out rfl _ rfl rfl ?_
      | refine wp_store stC (ccells_len _) HONE.out (w.heap.size + 1) 0 HY6.out (by decide) rfl _ _ rfl rfl rfl ?_)
    refine bodyPost_ret (results_cell_row rfl _ _ (w.heap.size + 1) _ _ _ _ rfl (setRow_heap _ _ _ _ _ _ HY6.out) Tryz.underlying54 rfl (by kernel_rfl)) rfl ⟨_, rfl, HK6.out _ (fun b _ hb => setRow_other _ _ _ _ hb) (by simp), below_setRow HB6.out (by omega) _⟩
end Go.Proofs.YthdninnjjmhpfaaGreatDoor

namespace Go.Proofs.YthdninnjjmhpfaaGreatDoor
open Go.RowKit
set_option maxHeartbeats 4000000
set_option maxRecDepth 100000

theorem elemC : Elem Tryz.prog 31 54 29 := elem_of (z := .agg #[.int .i64 0, .slice none 0 0, .int .i64 0, .int .i64 0, .bool false, .bool false, .string ⟨#[]⟩, .int .i64 0, .int .i64 0, .int .i64 0, .int .i64 0, .int .i64 0, .string ⟨#[]⟩, .slice none 0 0, .slice none 0 0, .slice none 0 0, .int .i64 0, .bool false, .bool false, .string ⟨#[]⟩, .int .i64 0, .int .i64 0, .int .i64 0, .int .i64 0, .int .i64 0, .string ⟨#[]⟩, .slice none 0 0, .slice none 0 0, .slice none 0 0]) (bytes := 376) Tryz.underlying31 (by kernel_rfl) (by decide) (by decide) rfl
theorem stI : (Tryz.prog.info? 3).map (·.size) = some 1 := by kernel_rfl
theorem rowC {w : World} {g : Nat} {c : CC} {t : TypeId} (h : w.heap[g]? = some (.cells (CC.cells c).toArray t (0, 0))) :
    w.cell? ⟨g, 0, none⟩ = some (.int .i64 c.op) ∧ (∀ j, j < 29 → w.cell? ⟨g, 0 + j, none⟩ = c.cells[j]?) ∧ (∀ j, j < 13 → w.cell? ⟨g, 3 + j, none⟩ = c.o.cells[j]?) ∧ (∀ j, j < 13 → w.cell? ⟨g, 16 + j, none⟩ = c.n.cells[j]?) := by
  have hc : ∀ j, j < 29 → w.cell? ⟨g, 0 + j, none⟩ = c.cells[j]? := fun j _ => by rw [Nat.zero_add, cell_of_row _ _ _ _ _ _ h, List.getElem?_toArray]
  obtain ⟨h0, _, _, h3, h4⟩ := cells29 (o := 0) hc
  exact ⟨h0, hc, fun j hj => by have := h3 j hj; rw [Nat.zero_add] at this; exact this, fun j hj => by have := h4 j hj; rw [Nat.zero_add] at this; exact this⟩
theorem setRow_of {w w3 : World} {g : Nat} {row cur : Array Value} {t : TypeId} (hW : w.setRow g row = w3) (hg : w.heap[g]? = some (.cells cur t (0, 0))) :
    w3.heap[g]? = some (.cells row t (0, 0)) ∧ (∀ b, b ≠ g → w3.heap[b]? = w.heap[b]?) ∧ w3.heap.size = w.heap.size ∧ (∀ B, B ≤ g → Below B w w3) := by
  subst hW
  exact ⟨setRow_heap _ _ _ _ _ _ hg, fun b hb => setRow_other _ _ _ _ hb, by simp, fun B hB => below_setRow (Below.refl _ _) hB _⟩
theorem alloc_of {w w1 : World} {X : Obj} (hW : w.alloc X = w1) : w1.heap[w.heap.size]? = some X ∧ (∀ b, b < w.heap.size → w1.heap[b]? = w.heap[b]?) ∧ w1.heap.size = w.heap.size + 1 ∧ Below w.heap.size w w1 := by
  subst hW
  exact ⟨heap_alloc_new w _, fun b hb => heap_alloc_old w X hb, by simp, (Below.refl _ _).alloc (Nat.le_refl _) _⟩
def invCC (c : CC) : CC := if c.op = 1 then ⟨1, c.p, c.pos, c.n, c.o⟩ else if c.op = 2 then ⟨3, c.p, c.pos, c.n, c.o⟩ else if c.op = 3 then ⟨2, c.p, c.pos, c.n, c.o⟩ else c
theorem RdC.inv {w : World} {S : Nat → Prop} {c : CC} {x : Ch} (h : RdC w S c x) : RdC w S (invCC c) (invC x) := by
  have hop := h.op
  unfold invCC invC
  rw [hop]
  split
  · exact ⟨rfl, h.pos, (show I64 1 from ⟨by decide, by decide⟩), h.ipos, h.p, h.sp, h.n, h.o⟩
  split
  · exact ⟨rfl, h.pos, (show I64 3 from ⟨by decide, by decide⟩), h.ipos, h.p, h.sp, h.n, h.o⟩
  split
  · exact ⟨rfl, h.pos, (show I64 2 from ⟨by decide, by decide⟩), h.ipos, h.p, h.sp, h.n, h.o⟩
  · exact h
theorem moves_any (c : CC) (w : World) (b : Bool) (hb : b = decide (c.op = 2 ∨ c.op = 3)) :
    Calls Tryz.prog 75 #[aggC c] w fun e w' => e = .returned (.bool b) ∧ Below w.heap.size w w' := by
  have HR := Lib.hid hb
  clear hb
  have hb1 : ∀ x, Below w.heap.size w (w.alloc x) := fun x => (Below.refl _ _).alloc (Nat.le_refl _) _
  have HB1 := Lib.hid hb1; clear hb1
  obtain ⟨op, p, pos, o, n⟩ := c
  simp only [aggC] at HR ⊢
  by_cases h2 : op = 2
  · subst h2
    go_enter Tryz.func75, Tryz.ntmps75
    go_wp2_with fail
    go_ret
    exact ⟨rb (by rw [HR.out]; rfl), HB1.out _⟩
  · have hq : (op == 2) = false := by rw [beq_eq_false_iff_ne]; exact h2
    have HF : Hid (b = decide (op = 3)) := by unfold Hid; rw [HR.out, decide_eq_decide]; exact ⟨fun h => h.resolve_left h2, .inr⟩
    clear h2 HR
    go_enter Tryz.func75, Tryz.ntmps75
    go_wp2_with fail
    go_ret
    exact ⟨rb (by rw [HF.out, Bool.eq_iff_iff]; simp), HB1.out _⟩
/-- What inverting hands back. -/
def InPost (w : World) (xs : List Ch) (e : Ending) (w' : World) : Prop := ∃ v, e = .returned v ∧ RdL w' v (invL xs) ∧ Below w.heap.size w w'
theorem rev_at (xs : List Ch) (m : Nat) (h : m < xs.length) : xs.reverse.take (xs.length - m) = xs.reverse.take (xs.length - (m + 1)) ++ [xs[m]] := by
  rw [show xs.length - m = (xs.length - (m + 1)) + 1 by omega, List.take_succ_eq_append_getElem (by rw [List.length_reverse]; omega), List.getElem_reverse]
  have : xs.length - 1 - (xs.length - (m + 1)) = m := by omega
  simp only [this]
/-- The row o of one's own reads as the list l, whose elements were there before. -/
def OwnX (w0 w : World) (o : Value) (l : List Ch) : Prop :=
  ∃ cs : List CC, cs.length = l.length ∧ w.ownsRow w0.heap.size 54 29 o l.length (cs.flatMap CC.cells) ∧ ∀ i (h : i < l.length) (h' : i < cs.length), RdC w0 (fun _ => True) cs[i] l[i]
theorem OwnX.nil {w0 w : World} : OwnX w0 w (.slice none 0 0) [] := ⟨[], rfl, World.ownsRow_nil _ _ _ _, fun _ h => absurd h (Nat.not_lt_zero _)⟩
theorem OwnX.stays {w0 w w' : World} {o : Value} {l : List Ch} (h : OwnX w0 w o l) (hb : Below w.heap.size w w') : OwnX w0 w' o l := by
  obtain ⟨cs, h1, h2, h3⟩ := h
  exact ⟨cs, h1, own_below h2 hb, h3⟩
theorem OwnX.push {w0 w' : World} {o' : Value} {l : List Ch} {cs : List CC} {c : CC} {x : Ch} (hc : cs.length = l.length) (hrd : ∀ i (h : i < l.length) (h' : i < cs.length), RdC w0 (fun _ => True) cs[i] l[i]) (hx : RdC w0 (fun _ => True) c x)
    (hown : w'.ownsRow w0.heap.size 54 29 o' (l.length + 1) (cs.flatMap CC.cells ++ CC.cells c)) : OwnX w0 w' o' (l ++ [x]) := by
  refine ⟨cs ++ [c], by simp [hc], ?_, fun i hi hi' => ?_⟩
  · rw [List.length_append, List.flatMap_append]
    simpa using hown
  · rw [List.length_append] at hi hi'
    simp only [List.length_cons, List.length_nil] at hi hi'
    by_cases h : i < l.length
    · rw [List.getElem_append_left h, List.getElem_append_left (by omega)]
      exact hrd i h (by omega)
    · have : i = l.length := by omega
      subst this
      rw [List.getElem_append_right (by omega), List.getElem_append_right (by omega)]
      simp only [Nat.sub_self, hc, List.getElem_cons_zero]
      exact hx
theorem OwnX.rd {w0 w : World} {o : Value} {l : List Ch} (h : OwnX w0 w o l) (hb : Below w0.heap.size w0 w) (hl : l.length ≤ 140737488351232) : RdL w o l := by
  obtain ⟨cs, hc, hown, hrd⟩ := h
  refine ⟨fun i => cs.getD i ⟨0, .slice none 0 0, 0, ⟨⟨0, false, false, ⟨#[]⟩, 0, 0, 0, 0, 0, ⟨#[]⟩, []⟩, .slice none 0 0, .slice none 0 0, .slice none 0 0⟩, ⟨⟨0, false, false, ⟨#[]⟩, 0, 0, 0, 0, 0, ⟨#[]⟩, []⟩, .slice none 0 0, .slice none 0 0, .slice none 0 0⟩⟩, ?_, fun i hi => ?_⟩
  · rw [← hc]
    rw [← hc] at hown
    exact Sl.of_own CC.cells ccells_len cs hown (by omega) _ (fun i hi => by dsimp only; rw [List.getD_eq_getElem?_getD, List.getElem?_eq_getElem hi]; rfl)
  · have h1 : cs.getD i ⟨0, .slice none 0 0, 0, ⟨⟨0, false, false, ⟨#[]⟩, 0, 0, 0, 0, 0, ⟨#[]⟩, []⟩, .slice none 0 0, .slice none 0 0, .slice none 0 0⟩, ⟨⟨0, false, false, ⟨#[]⟩, 0, 0, 0, 0, 0, ⟨#[]⟩, []⟩, .slice none 0 0, .slice none 0 0, .slice none 0 0⟩⟩ = cs[i] := by rw [List.getD_eq_getElem?_getD, List.getElem?_eq_getElem (by omega)]; rfl
    dsimp only
    rw [h1]
    exact (hrd i hi (by omega)).stays hb
end Go.Proofs.YthdninnjjmhpfaaGreatDoor


namespace Go.Proofs.YthdninnjjmhpfaaGreatDoor
open Go.RowKit
set_option maxHeartbeats 4000000
set_option maxRecDepth 100000

theorem rowV {w : World} {g : Nat} {c : VC} {t : TypeId} (h : w.heap[g]? = some (.cells (VC.cells c).toArray t (0, 0))) : ∀ j, j < 13 → w.cell? ⟨g, 0 + j, none⟩ = c.cells[j]? :=
  fun j _ => by rw [Nat.zero_add, cell_of_row _ _ _ _ _ _ h, List.getElem?_toArray]
theorem VCheck_any (v : V) (c : VC) (w : World) (hn : nodV v ≤ 1000000) (hv : RdV w c v) :
    Calls Tryz.prog 40 #[aggV c] w fun e w' => e = .returned (.int .i64 (checkV v : Nat)) ∧ Below w.heap.size w w' := by
  have hone := vc_one hv
  have HV := Lib.hid hv
  have HONE := Lib.hid hone
  have HN := Lib.hid hn
  clear hv hn hone
  go_enter Tryz.func40, Tryz.ntmps40
  go_upto_region 2 with fail
  generalize hW : World.alloc (World.alloc _ _) _ = w1
  obtain ⟨hb, hx, hy, hz⟩ := alloc2_of hW
  have hc13 : Hid (∀ j, j < 13 → w1.cell? ⟨w.heap.size, 0 + j, none⟩ = c.cells[j]?) := rowV hx
  have HB := Lib.hid hb
  have HY := Lib.hid hy
  have HZ := Lib.hid hz
  clear hb hx hy hz hW
  go_wp2_with (refine wpl_load rfl rfl stVk rfl (cells_len _) hc13.out ?_)
  have hr1 : RdI w1 (fun b => b < w.heap.size + 1) c v := stbV.mono (stbV.kept HV.out (fun b _ hb' => HB.out.block b hb') HB.out.size) (fun b h => Nat.lt_succ_of_lt h.2)
  refine (check_any _ v c w1 1 0 (w.heap.size + 1) (Nat.le_refl _) HN.out (by decide) (by decide) (by decide) (by decide) hr1 HY.out).mono ?_
  rintro e w2 ⟨rfl, o1, o2, o3, hz2, hbl, _⟩
  have hbw : Below w.heap.size w w2 := ⟨o1.trans HB.out.os, o2.trans HB.out.tape, o3.trans HB.out.output, Nat.le_trans HB.out.size hz2, fun k hk => (hbl k (by have := HZ.out; omega) (by omega)).trans (HB.out.block k hk)⟩
  clear o1 o2 o3 hz2 hbl hr1
  go_wp2_with fail
  go_ret
  exact ⟨rfl, hbw⟩
end Go.Proofs.YthdninnjjmhpfaaGreatDoor

namespace Go.Proofs.YthdninnjjmhpfaaGreatDoor
open Go.RowKit
set_option maxRecDepth 100000
set_option maxHeartbeats 1000000

/-- Are all parts of a value zero? -/
def zeroV : V → Bool
  | .mk h l f => decide (h.kind = 0 ∧ h.bool = false ∧ (h.neg = false ∧ h.ds.toList = [] ∧ h.exp = 0) ∧ (h.tk = 0 ∧ h.day = 0 ∧ h.nano = 0 ∧ h.off = 0) ∧ h.text.toList = [] ∧ h.bytes.length = 0 ∧ l.length = 0 ∧ f.length = 0)
/-- Is the last step a key? -/
def lastK (p : List St) : Bool := decide (0 < p.length) && !(p.getD (p.length - 1) (false, ⟨#[]⟩, 0)).1
def movB (op : Int) : Bool := decide (op = 2 ∨ op = 3)
def oldB (op : Int) : Bool := decide (op = 1 ∨ op = 3 ∨ op = 4)
def newB (op : Int) : Bool := decide (op = 1 ∨ op = 2)
/-- The first question, and the second one. -/
def arg1 (x : Ch) : Bool := !((!oldB x.op && !newB x.op) || (!validP x.p || (decide (x.p.length = 0) && movB x.op)))
def arg2 (x : Ch) : Bool := !(decide (x.pos < 0) || (decide (65536 < x.pos) || ((decide (x.pos ≠ 0) && !(movB x.op && lastK x.p)) || ((!oldB x.op && !zeroV x.o) || (!newB x.op && !zeroV x.n)))))
def oneC (x : Ch) : Nat :=
  if arg1 x = false then 1 else if arg2 x = false then 1 else if oldB x.op = true ∧ checkV x.o ≠ 0 then checkV x.o else if newB x.op = true then checkV x.n else 0
/-- The place of the first change that is not valid, and its error. -/
def firstC : List Ch → Nat → Nat × Nat
  | [], _ => (0, 0)
  | x :: t, i => if oneC x ≠ 0 then (i, oneC x) else firstC t (i + 1)
def checkL (xs : List Ch) : Nat := if 4096 < xs.length then 10 else (firstC xs 0).2
theorem firstC_drop (xs : List Ch) (k : Nat) (h : k < xs.length) (i : Nat) : firstC (xs.drop k) i = if oneC xs[k] ≠ 0 then (i, oneC xs[k]) else firstC (xs.drop (k + 1)) (i + 1) := by
  rw [List.drop_eq_getElem_cons h, firstC]
end Go.Proofs.YthdninnjjmhpfaaGreatDoor

namespace Go.Proofs.YthdninnjjmhpfaaGreatDoor
open Go.RowKit
set_option maxHeartbeats 4000000
set_option maxRecDepth 100000

theorem zeroP_any (v : V) (c : VC) (w : World) (hv : RdV w c v) :
    Calls Tryz.prog 51 #[aggV c] w fun e w' => e = .returned (.bool (zeroV v)) ∧ Below w.heap.size w w' := by
  cases hv with
  | mk h l f bv lv fv lc fc ok hB hl hL hf hK hF sb sl sf =>
  obtain ⟨ba, bcap, rfl, _⟩ := hB
  obtain ⟨la, lcap, rfl, _⟩ := hl
  obtain ⟨fa, fcap, rfl, _⟩ := hf
  clear hL hF hK ok sb sl sf
  have hbw : ∀ x, Below w.heap.size w (w.alloc x) := fun x => (Below.refl _ _).alloc (Nat.le_refl _) _
  have HB := Lib.hid hbw; clear hbw
  obtain ⟨r, hr⟩ : ∃ r, r = zeroV (.mk h l f) := ⟨_, rfl⟩
  rw [← hr]
  rw [zeroV] at hr
  obtain ⟨a0, a1, a2, a3, a4, a5, a6, a7, a8, a9, a10⟩ := h
  simp only at hr
  generalize l.length = nl at *
  generalize f.length = nf at *
  simp only [aggV]
  generalize a10.length = nb at *
  have HQ : Hid (True → r = decide (a0 = 0 ∧ a1 = false ∧ (a2 = false ∧ a3.toList = [] ∧ a4 = 0) ∧ (a5 = 0 ∧ a6 = 0 ∧ a7 = 0 ∧ a8 = 0) ∧ a9.toList = [] ∧ nb = 0 ∧ nl = 0 ∧ nf = 0)) := fun _ => hr
  clear hr
  go_enter Tryz.func51, Tryz.ntmps51
  cases a2
  all_goals go_wp2_with fail
  all_goals
    go_ret
    refine ⟨rb ?_, HB.out _⟩
    have hq := HQ.out trivial
    clear HQ HB
    rw [hq]
    clear hq
    first
      | (simp_all; done)
      | (simp_all; omega)
      | (rw [Bool.eq_iff_iff]; simp_all; done)
      | (rw [Bool.eq_iff_iff]; simp_all; omega)
theorem zeroR_any (v : V) (c : VC) (w : World) (hv : RdV w c v) :
    Calls Tryz.prog 87 #[aggV c] w fun e w' => e = .returned (.bool (zeroV v)) ∧ Below w.heap.size w w' := by
  cases hv with
  | mk h l f bv lv fv lc fc ok hB hl hL hf hK hF sb sl sf =>
  obtain ⟨ba, bcap, rfl, _⟩ := hB
  obtain ⟨la, lcap, rfl, _⟩ := hl
  obtain ⟨fa, fcap, rfl, _⟩ := hf
  clear hL hF hK ok sb sl sf
  have hbw : ∀ x, Below w.heap.size w (w.alloc x) := fun x => (Below.refl _ _).alloc (Nat.le_refl _) _
  have HB := Lib.hid hbw; clear hbw
  obtain ⟨r, hr⟩ : ∃ r, r = zeroV (.mk h l f) := ⟨_, rfl⟩
  rw [← hr]
  rw [zeroV] at hr
  obtain ⟨a0, a1, a2, a3, a4, a5, a6, a7, a8, a9, a10⟩ := h
  simp only at hr
  generalize l.length = nl at *
  generalize f.length = nf at *
  simp only [aggV]
  generalize a10.length = nb at *
  have HQ : Hid (True → r = decide (a0 = 0 ∧ a1 = false ∧ (a2 = false ∧ a3.toList = [] ∧ a4 = 0) ∧ (a5 = 0 ∧ a6 = 0 ∧ a7 = 0 ∧ a8 = 0) ∧ a9.toList = [] ∧ nb = 0 ∧ nl = 0 ∧ nf = 0)) := fun _ => hr
  clear hr
  go_enter Tryz.func87, Tryz.ntmps87
  cases a2
  all_goals go_wp2_with fail
  all_goals
    go_ret
    refine ⟨rb ?_, HB.out _⟩
    have hq := HQ.out trivial
    clear HQ HB
    rw [hq]
    clear hq
    first
      | (simp_all; done)
      | (simp_all; omega)
      | (rw [Bool.eq_iff_iff]; simp_all; done)
      | (rw [Bool.eq_iff_iff]; simp_all; omega)
theorem hasOld_any (op : Int) (w : World) : Calls Tryz.prog 38 #[.int .i64 op] w fun e w' => e = .returned (.bool (oldB op)) ∧ w = w' := by
  have HQ : Hid (True → oldB op = decide (op = 1 ∨ op = 3 ∨ op = 4)) := fun _ => rfl
  generalize oldB op = r at *
  go_enter Tryz.func38, Tryz.ntmps38
  go_wp2_with fail
  all_goals
    go_ret
    refine ⟨rb ?_, rfl⟩
    have hq := HQ.out trivial
    clear HQ
    rw [hq]
    first
      | (simp_all; done)
      | (rw [Bool.eq_iff_iff]; simp_all; done)
      | (rw [Bool.eq_iff_iff]; simp_all; omega)
theorem hasNew_any (op : Int) (w : World) : Calls Tryz.prog 39 #[.int .i64 op] w fun e w' => e = .returned (.bool (newB op)) ∧ w = w' := by
  have HQ : Hid (True → newB op = decide (op = 1 ∨ op = 2)) := fun _ => rfl
  generalize newB op = r at *
  go_enter Tryz.func39, Tryz.ntmps39
  go_wp2_with fail
  all_goals
    go_ret
    refine ⟨rb ?_, rfl⟩
    have hq := HQ.out trivial
    clear HQ
    rw [hq]
    first
      | (simp_all; done)
      | (rw [Bool.eq_iff_iff]; simp_all; done)
      | (rw [Bool.eq_iff_iff]; simp_all; omega)
end Go.Proofs.YthdninnjjmhpfaaGreatDoor

namespace Go.Proofs.YthdninnjjmhpfaaGreatDoor
open Go.RowKit
set_option maxHeartbeats 4000000
set_option maxRecDepth 100000

/-- The cells of a change that lies whole in a block. -/
theorem rowC5 {w : World} {g : Nat} {c : CC} {t : TypeId} (h : w.heap[g]? = some (.cells (CC.cells c).toArray t (0, 0))) :
    w.cell? ⟨g, 0, none⟩ = some (.int .i64 c.op) ∧ w.cell? ⟨g, 1, none⟩ = some c.p ∧ w.cell? ⟨g, 2, none⟩ = some (.int .i64 c.pos) ∧ (∀ j, j < 29 → w.cell? ⟨g, 0 + j, none⟩ = c.cells[j]?) ∧ (∀ j, j < 13 → w.cell? ⟨g, 3 + j, none⟩ = c.o.cells[j]?) ∧ (∀ j, j < 13 → w.cell? ⟨g, 16 + j, none⟩ = c.n.cells[j]?) := by
  obtain ⟨h0, hc, h3, h4⟩ := rowC h
  exact ⟨h0, hc 1 (by decide), hc 2 (by decide), hc, h3, h4⟩
theorem lastK_at (p : List St) (m : Nat) (hm : p.length = m + 1) (s : St) (hs : ∀ h : m < p.length, p[m] = s) : lastK p = !s.1 := by
  unfold lastK
  rw [decide_eq_true (by omega), Bool.true_and, hm, Nat.add_sub_cancel, List.getD_eq_getElem?_getD, List.getElem?_eq_getElem (by omega), hs (by omega)]
  rfl
theorem keyed_any (x : Ch) (c : CC) (w : World) (hx : RdC w (fun _ => True) c x) :
    Calls Tryz.prog 36 #[aggC c] w fun e w' => e = .returned (.bool (movB x.op && lastK x.p)) ∧ Below w.heap.size w w' := by
  obtain ⟨r, hr⟩ : ∃ r, r = (movB x.op && lastK x.p) := ⟨_, rfl⟩
  rw [← hr]
  obtain ⟨op, p, pos, co, cn⟩ := c
  obtain ⟨a, cap, hp, h1, h2, h0, h3⟩ := hx.p
  simp only at hp
  subst hp
  have hop := hx.op
  simp only at hop
  rw [← hop] at hr
  clear hop hx
  have hs : ∀ (n m : Nat), x.p.length = n → n = m + 1 → ∃ g o, a = some ⟨g, o, none⟩ ∧ g < w.heap.size ∧ ∃ b : Bool, w.cell? ⟨g, o + m * 3, none⟩ = some (.bool b) ∧ lastK x.p = !b := by
    intro n m hn hm
    obtain ⟨g, o, ha, hg, hc⟩ := h3 (by intro h; rw [h] at hn; simp at hn; omega)
    have hlt : m < x.p.length := by omega
    exact ⟨g, o, ha, hg, x.p[m].1, (hc m hlt).1, lastK_at _ m (by omega) _ (fun _ => rfl)⟩
  have hl0 : x.p.length = 0 → lastK x.p = false := fun h => by unfold lastK; rw [h]; rfl
  unfold maxLen at h2
  clear h3 h0
  generalize x.p.length = n at *
  generalize lastK x.p = qk at *
  have HS := Lib.hid (fun m hm => hs n m rfl hm)
  clear hs
  have HQ : Hid (True → r = (decide (op = 2 ∨ op = 3) && qk)) := fun _ => hr
  clear hr
  go_enter Tryz.func36, Tryz.ntmps36
  go_upto_region 1 with fail
  generalize hW : World.alloc w _ = w1
  obtain ⟨hx0, _, _, hb⟩ := alloc_of hW
  obtain ⟨c0, c1, c2, -, -, -⟩ := rowC5 (c := ⟨op, .slice a n cap, pos, co, cn⟩) hx0
  have HB := Lib.hid hb
  clear hx0 hb hW
  simp only at c0 c1 c2
  rcases n with _ | m
  · have HL := Lib.hid (hl0 rfl)
    clear hl0
    go_wp2_with fail
    all_goals
      go_ret
      refine ⟨rb ?_, HB.out⟩
      have hq := HQ.out trivial
      have hl := HL.out
      clear HQ HL HS HB
      rw [hq, hl]
      simp
  · obtain ⟨g, o, rfl, hg, b, hc, hk⟩ := HS.out m rfl
    have hc' := (HB.out.cell hg).trans hc
    have HK := Lib.hid hk
    have hmb : (m : Int) ≤ 9223372036854775806 := by omega
    clear hl0 HS hc hk h1 h2
    go_wp2_with fail
    all_goals
      go_ret
      refine ⟨rb ?_, HB.out⟩
      have hq := HQ.out trivial
      have hl := HK.out
      clear HQ HK HB
      rw [hq, hl]
      first
        | (simp_all; done)
        | (rw [Bool.eq_iff_iff]; simp_all; done)
theorem byKey_any (v : Value) (p : List St) (w : World) (h : Rd w v p) :
    Calls Tryz.prog 64 #[v] w fun e w' => e = .returned (.bool (lastK p)) ∧ Below w.heap.size w w' := by
  obtain ⟨a, cap, rfl, h1, h2, h0, h3⟩ := h
  have hs : ∀ (n m : Nat), p.length = n → n = m + 1 → ∃ g o, a = some ⟨g, o, none⟩ ∧ g < w.heap.size ∧ ∃ b : Bool, w.cell? ⟨g, o + m * 3, none⟩ = some (.bool b) ∧ lastK p = !b := by
    intro n m hn hm
    obtain ⟨g, o, ha, hg, hc⟩ := h3 (by intro h; rw [h] at hn; simp at hn; omega)
    have hlt : m < p.length := by omega
    exact ⟨g, o, ha, hg, p[m].1, (hc m hlt).1, lastK_at _ m (by omega) _ (fun _ => rfl)⟩
  have hl0 : p.length = 0 → lastK p = false := fun h => by unfold lastK; rw [h]; rfl
  unfold maxLen at h2
  clear h3 h0
  generalize p.length = n at *
  generalize lastK p = qk at *
  have HS := Lib.hid (fun m hm => hs n m rfl hm)
  clear hs
  have HB : Hid (Below w.heap.size w w) := Below.refl _ _
  rcases n with _ | m
  · have HL := Lib.hid (hl0 rfl)
    clear hl0
    go_enter Tryz.func64, Tryz.ntmps64
    go_wp2_with fail
    go_ret
    exact ⟨rb HL.out.symm, HB.out⟩
  · obtain ⟨g, o, rfl, hg, b, hc, hk⟩ := HS.out m rfl
    have HK := Lib.hid hk
    have hmb : (m : Int) ≤ 9223372036854775806 := by omega
    clear hl0 HS hk h1 h2
    go_enter Tryz.func64, Tryz.ntmps64
    go_wp2_with fail
    go_ret
    exact ⟨rb HK.out.symm, HB.out⟩
end Go.Proofs.YthdninnjjmhpfaaGreatDoor

namespace Go.Proofs.YthdninnjjmhpfaaGreatDoor
open Go.RowKit
set_option maxHeartbeats 8000000
set_option maxRecDepth 100000

/-- Since the call began only new blocks were made; the change lies in the first of them. -/
structure OnW (w wr : World) (c : CC) : Prop where
  b : Below w.heap.size w wr
  x : wr.heap[w.heap.size]? = some (.cells (CC.cells c).toArray 54 (0, 0))
  z : w.heap.size < wr.heap.size
theorem OnW.below {w wr w2 : World} {c : CC} (h : OnW w wr c) (hb : Below wr.heap.size wr w2) : OnW w w2 c :=
  ⟨h.b.trans (hb.mono h.b.size), (hb.block _ h.z).trans h.x, Nat.lt_of_lt_of_le h.z hb.size⟩
theorem arg1_iff (x : Ch) : arg1 x = true ↔ (x.op = 1 ∨ x.op = 2 ∨ x.op = 3 ∨ x.op = 4) ∧ validP x.p = true ∧ ¬ (x.p.length = 0 ∧ (x.op = 2 ∨ x.op = 3)) := by
  unfold arg1 oldB newB movB
  generalize validP x.p = qv
  cases qv
  · simp
  · simp only [Bool.not_true, Bool.not_eq_true', Bool.or_eq_false_iff, Bool.false_or, Bool.and_eq_false_iff, decide_eq_false_iff_not, Bool.not_eq_false', decide_eq_true_eq, true_and]
    omega
theorem arg2_iff (x : Ch) : arg2 x = true ↔ ¬ x.pos < 0 ∧ ¬ 65536 < x.pos ∧ (x.pos = 0 ∨ (movB x.op && lastK x.p) = true) ∧ (oldB x.op = true ∨ zeroV x.o = true) ∧ (newB x.op = true ∨ zeroV x.n = true) := by
  unfold arg2
  generalize (movB x.op && lastK x.p) = q1
  generalize oldB x.op = q2
  generalize newB x.op = q3
  generalize zeroV x.o = q4
  generalize zeroV x.n = q5
  cases q1 <;> cases q2 <;> cases q3 <;> cases q4 <;> cases q5 <;> simp
theorem oldB_is (op : Int) : oldB op = true ↔ op = 1 ∨ op = 3 ∨ op = 4 := by unfold oldB; simp
theorem newB_is (op : Int) : newB op = true ↔ op = 1 ∨ op = 2 := by unfold newB; simp
theorem movB_is (op : Int) : movB op = true ↔ op = 2 ∨ op = 3 := by unfold movB; simp
theorem one_any (x : Ch) (c : CC) (w : World) (hno : nodV x.o ≤ 1000000) (hnn : nodV x.n ≤ 1000000) (hx : RdC w (fun _ => True) c x) :
    Calls Tryz.prog 22 #[aggC c] w fun e w' => e = .returned (.int .i64 (oneC x : Nat)) ∧ Below w.heap.size w w' := by
  obtain ⟨r, hr⟩ : ∃ r : Nat, r = oneC x := ⟨_, rfl⟩
  rw [← hr]
  unfold oneC at hr
  obtain ⟨q1, hq1⟩ : ∃ q, q = !arg1 x := ⟨_, rfl⟩
  obtain ⟨q2, hq2⟩ : ∃ q, q = !arg2 x := ⟨_, rfl⟩
  have i1 := arg1_iff x
  have i2 := arg2_iff x
  have a1 : arg1 x = !q1 := by rw [hq1, Bool.not_not]
  have a2 : arg2 x = !q2 := by rw [hq2, Bool.not_not]
  rw [a1] at hr i1
  rw [a2] at hr i2
  clear hq1 hq2 a1 a2
  have i3 := oldB_is x.op
  have i4 := newB_is x.op
  have HPV := Lib.hid (fun w' (hb : Below w.heap.size w w') => PValid_any c.p x.p w' (hx.p.below hb))
  have HKY : Hid (∀ w', Below w.heap.size w w' → Calls Tryz.prog 36 #[.agg c.cells.toArray] w' fun e w2 => e = .returned (.bool (movB x.op && lastK x.p)) ∧ Below w'.heap.size w' w2) := fun w' hb => keyed_any x c w' (hx.stays hb)
  have HZO : Hid (∀ w', Below w.heap.size w w' → Calls Tryz.prog 51 #[.agg c.o.cells.toArray] w' fun e w2 => e = .returned (.bool (zeroV x.o)) ∧ Below w'.heap.size w' w2) := fun w' hb => zeroP_any x.o c.o w' (hx.o.stays hb)
  have HZN : Hid (∀ w', Below w.heap.size w w' → Calls Tryz.prog 51 #[.agg c.n.cells.toArray] w' fun e w2 => e = .returned (.bool (zeroV x.n)) ∧ Below w'.heap.size w' w2) := fun w' hb => zeroP_any x.n c.n w' (hx.n.stays hb)
  have HVO : Hid (∀ w', Below w.heap.size w w' → Calls Tryz.prog 40 #[.agg c.o.cells.toArray] w' fun e w2 => e = .returned (.int .i64 (checkV x.o : Nat)) ∧ Below w'.heap.size w' w2) := fun w' hb => VCheck_any x.o c.o w' hno (hx.o.stays hb)
  have HVN : Hid (∀ w', Below w.heap.size w w' → Calls Tryz.prog 40 #[.agg c.n.cells.toArray] w' fun e w2 => e = .returned (.int .i64 (checkV x.n : Nat)) ∧ Below w'.heap.size w' w2) := fun w' hb => VCheck_any x.n c.n w' hnn (hx.n.stays hb)
  have HHO := Lib.hid (fun w' => hasOld_any x.op w')
  have HHN := Lib.hid (fun w' => hasNew_any x.op w')
  obtain ⟨a, cap, hp, -, -⟩ := hx.p
  have hop := hx.op
  have hpos := hx.pos
  have HC5 : Hid (∀ w', OnW w w' c → w'.cell? ⟨w.heap.size, 0, none⟩ = some (.int .i64 x.op) ∧ w'.cell? ⟨w.heap.size, 1, none⟩ = some (.slice a x.p.length cap) ∧ w'.cell? ⟨w.heap.size, 2, none⟩ = some (.int .i64 x.pos) ∧ (∀ j, j < 29 → w'.cell? ⟨w.heap.size, 0 + j, none⟩ = c.cells[j]?) ∧ (∀ j, j < 13 → w'.cell? ⟨w.heap.size, 3 + j, none⟩ = c.o.cells[j]?) ∧ (∀ j, j < 13 → w'.cell? ⟨w.heap.size, 16 + j, none⟩ = c.n.cells[j]?)) := by
    intro w' h
    have := rowC5 h.x
    rw [hop, hpos, hp] at this
    exact this
  rw [hp] at HPV
  have HIN : Hid (∀ w1 : World, w.alloc (.cells (CC.cells c).toArray 54) = w1 → OnW w w1 c) := fun w1 hW => by
    obtain ⟨hx0, _, hz0, hb0⟩ := alloc_of hW
    exact ⟨hb0, hx0, by omega⟩
  clear hx hp hop hpos hno hnn
  generalize zeroV x.o = zo at *
  generalize zeroV x.n = zn at *
  generalize checkV x.o = eo at *
  generalize checkV x.n = en at *
  generalize (movB x.op && lastK x.p) = qk at *
  generalize oldB x.op = qo at *
  generalize newB x.op = qn at *
  generalize validP x.p = qv at *
  generalize x.p.length = n at *
  generalize x.op = op at *
  generalize x.pos = pos at *
  have HR := Lib.hid hr
  have I1 := Lib.hid i1
  have I2 := Lib.hid i2
  have I3 := Lib.hid i3
  have I4 := Lib.hid i4
  clear hr i1 i2 i3 i4
  go_enter Tryz.func22, Tryz.ntmps22
  go_upto_region 1 with fail
  generalize hW : World.alloc w _ = w1
  have HON := Lib.hid (HIN.out w1 hW)
  obtain ⟨c0, c1, c2, -, -, -⟩ := HC5.out _ HON.out
  clear hW HIN
  go_cut [35] (fun v wx => v = .bool q1 ∧ OnW w wx c)
  case first =>
    clear HZO HZN HVO HVN HKY I2 HR c2
    have J1 := I1.out
    have J3 := I3.out
    have J4 := I4.out
    clear I1 I3 I4
    have way : q1 = true ∧ qo = false ∧ qn = false ∨ q1 = true ∧ (qo = true ∨ qo = false ∧ qn = true) ∧ qv = false ∨ q1 = false ∧ (qo = true ∨ qo = false ∧ qn = true) ∧ qv = true ∧ n ≠ 0 ∨
        q1 = false ∧ qo = true ∧ qv = true ∧ n = 0 ∧ op ≠ 2 ∧ op ≠ 3 ∨ q1 = true ∧ qo = true ∧ qv = true ∧ n = 0 ∧ op = 3 ∨ q1 = true ∧ qo = false ∧ qn = true ∧ qv = true ∧ n = 0 ∧ op = 2 := by
      cases q1 <;> cases qo <;> cases qn <;> cases qv <;> simp at J1 J3 J4 ⊢ <;> omega
    clear J1 J3 J4
    rcases way with ⟨rfl, rfl, rfl⟩ | ⟨rfl, rfl | ⟨rfl, rfl⟩, rfl⟩ | ⟨rfl, rfl | ⟨rfl, rfl⟩, rfl, hn⟩ | ⟨rfl, rfl, rfl, rfl, h2, h3⟩ | ⟨rfl, rfl, rfl, rfl, rfl⟩ | ⟨rfl, rfl, rfl, rfl, rfl, rfl⟩
    case' inr.inr.inl.inl => have hn' : ((n : Int) == 0) = false := by rw [beq_eq_false_iff_ne]; omega
    case' inr.inr.inl.inr => have hn' : ((n : Int) == 0) = false := by rw [beq_eq_false_iff_ne]; omega
    case' inr.inr.inr.inl => have h2' : (op == 2) = false := by rw [beq_eq_false_iff_ne]; exact h2
    case' inr.inr.inr.inl => have h3' : (op == 3) = false := by rw [beq_eq_false_iff_ne]; exact h3
    all_goals
      go_wp2_with (first
        | (go_at_call 38; refine (HHO.out _).mono ?_; rintro e w' ⟨rfl, rfl⟩)
        | (go_at_call 39; refine (HHN.out _).mono ?_; rintro e w' ⟨rfl, rfl⟩)
        | (go_at_call 50; refine (HPV.out _ HON.out.b).mono ?_; rintro e w2 ⟨rfl, hb⟩; have HON2 := Lib.hid (HON.out.below hb); clear hb; obtain ⟨d0, d1, -, -, -, -⟩ := HC5.out _ HON2.out))
      go_meet
      first
        | exact ⟨rfl, HON2.out⟩
        | exact ⟨rfl, HON.out⟩
  case rest =>
  clear c0 c1 c2
  obtain ⟨rfl, HON2⟩ := hcut
  replace HON2 := Lib.hid HON2
  clear HON I1 I3 I4 HPV
  cases q1 with
  | true =>
    have HF : Hid (r = 1) := HR.out
    clear HR
    go_wp2_with fail
    go_ret
    exact ⟨ri (by rw [HF.out]; rfl), HON2.out.b⟩
  | false =>
  replace HR : Hid (r = if (!q2) = false then 1 else if qo = true ∧ eo ≠ 0 then eo else if qn = true then en else 0) := HR.out
  obtain ⟨c0, -, c2, c29, c3, c4⟩ := HC5.out _ HON2.out
  have C29 := Lib.hid c29
  have C3 := Lib.hid c3
  have C4 := Lib.hid c4
  clear c29 c3 c4
  go_upto_region 3 with fail
  go_cut [77] (fun v wx => v = .bool q2 ∧ OnW w wx c)
  case first =>
    clear HR HVO HVN
    have way : pos < 0 ∨ 65536 < pos ∨ 0 < pos ∧ pos ≤ 65536 ∨ pos = 0 := by omega
    rcases way with hp | hp | ⟨hp, hp1⟩ | hp
    · have hq : q2 = true := by have := I2.out; cases q2 <;> simp at this ⊢ <;> omega
      subst hq
      clear I2
      go_wp2_with fail
      go_meet
      exact ⟨rfl, HON2.out⟩
    · have hq : q2 = true := by have := I2.out; cases q2 <;> simp at this ⊢ <;> omega
      subst hq
      have hp' : ((65536 : Int) < pos) = True := eq_true hp
      have hp0 : ¬ pos < 0 := by omega
      clear I2 hp
      go_wp2_with fail
      go_meet
      exact ⟨rfl, HON2.out⟩
    · have hp' : ((65536 : Int) < pos) = False := eq_false (by omega)
      have hp0 : ¬ pos < 0 := by omega
      have hpn : (pos != 0) = true := by rw [bne_iff_ne]; omega
      have J2 : Hid ((!q2) = true ↔ qk = true ∧ (qo = true ∨ zo = true) ∧ (qn = true ∨ zn = true)) := by
        unfold Hid
        rw [I2.out]
        exact ⟨fun h => ⟨h.2.2.1.resolve_left (by omega), h.2.2.2⟩, fun h => ⟨by omega, by omega, .inr h.1, h.2⟩⟩
      clear I2 hp hp1
      go_wp2_with (refine wpl_loadG rfl stC rfl rfl (ccells_len _) C29.out ?_)
      refine (HKY.out _ HON2.out.b).mono ?_
      rintro e w2 ⟨rfl, hb⟩
      have HON3 := Lib.hid (HON2.out.below hb)
      clear hb c0 c2 C29 C3 C4
      obtain ⟨c0, -, c2, -, c3, c4⟩ := HC5.out _ HON3.out
      have C3 := Lib.hid c3
      have C4 := Lib.hid c4
      clear c3 c4
      cases qk with
      | false =>
        have hq : q2 = true := by have := J2.out; cases q2 <;> simp at this ⊢
        subst hq
        clear J2
        go_wp2_with fail
        go_meet
        exact ⟨rfl, HON3.out⟩
      | true =>
      have J3 : Hid ((!q2) = true ↔ (qo = true ∨ zo = true) ∧ (qn = true ∨ zn = true)) := by unfold Hid; rw [J2.out]; simp
      clear J2 HON2
      cases qo with
      | false =>
        go_wp2_with (first
          | (go_at_call 38; refine (HHO.out _).mono ?_; rintro e w' ⟨rfl, rfl⟩)
          | refine wpl_loadG rfl stVk rfl rfl (cells_len _) C3.out ?_)
        refine (HZO.out _ HON3.out.b).mono ?_
        rintro e w3 ⟨rfl, hb⟩
        have HON4 := Lib.hid (HON3.out.below hb)
        clear hb c0 c2 C3 C4
        obtain ⟨c0, -, -, -, -, c4⟩ := HC5.out _ HON4.out
        have C4 := Lib.hid c4
        clear c4 HON3
        cases zo with
        | false =>
          have hq : q2 = true := by have := J3.out; cases q2 <;> simp at this ⊢
          subst hq
          clear J3
          go_wp2_with fail
          go_meet
          exact ⟨rfl, HON4.out⟩
        | true =>
          cases qn with
          | true =>
            have hq : q2 = false := by have := J3.out; cases q2 <;> simp at this ⊢
            subst hq
            clear J3
            go_wp2_with (go_at_call 39; refine (HHN.out _).mono ?_; rintro e w' ⟨rfl, rfl⟩)
            go_meet
            exact ⟨rfl, HON4.out⟩
          | false =>
            go_wp2_with (first
              | (go_at_call 39; refine (HHN.out _).mono ?_; rintro e w' ⟨rfl, rfl⟩)
              | refine wpl_loadG rfl stVk rfl rfl (cells_len _) C4.out ?_)
            refine (HZN.out _ HON4.out.b).mono ?_
            rintro e w4 ⟨rfl, hb⟩
            have HON5 := Lib.hid (HON4.out.below hb)
            clear hb c0 C4 HON4
            have hq : q2 = !zn := by have := J3.out; cases q2 <;> cases zn <;> simp at this ⊢
            subst hq
            clear J3
            cases zn
            all_goals
              go_wp2_with fail
              go_meet
              exact ⟨rfl, HON5.out⟩
      | true =>
        cases qn with
        | true =>
          have hq : q2 = false := by have := J3.out; cases q2 <;> simp at this ⊢
          subst hq
          clear J3
          go_wp2_with (first
            | (go_at_call 38; refine (HHO.out _).mono ?_; rintro e w' ⟨rfl, rfl⟩)
            | (go_at_call 39; refine (HHN.out _).mono ?_; rintro e w' ⟨rfl, rfl⟩))
          go_meet
          exact ⟨rfl, HON3.out⟩
        | false =>
          go_wp2_with (first
            | (go_at_call 38; refine (HHO.out _).mono ?_; rintro e w' ⟨rfl, rfl⟩)
            | (go_at_call 39; refine (HHN.out _).mono ?_; rintro e w' ⟨rfl, rfl⟩)
            | refine wpl_loadG rfl stVk rfl rfl (cells_len _) C4.out ?_)
          refine (HZN.out _ HON3.out.b).mono ?_
          rintro e w4 ⟨rfl, hb⟩
          have HON5 := Lib.hid (HON3.out.below hb)
          clear hb c0 c2 C3 C4 HON3
          have hq : q2 = !zn := by have := J3.out; cases q2 <;> cases zn <;> simp at this ⊢
          subst hq
          clear J3
          cases zn
          all_goals
            go_wp2_with fail
            go_meet
            exact ⟨rfl, HON5.out⟩
    · have J3 : Hid ((!q2) = true ↔ (qo = true ∨ zo = true) ∧ (qn = true ∨ zn = true)) := by
        unfold Hid
        rw [I2.out]
        exact ⟨fun h => h.2.2.2, fun h => ⟨by omega, by omega, .inl hp, h⟩⟩
      subst hp
      have HON3 := HON2
      clear I2 HON2 C29
      cases qo with
      | false =>
        go_wp2_with (first
          | (go_at_call 38; refine (HHO.out _).mono ?_; rintro e w' ⟨rfl, rfl⟩)
          | refine wpl_loadG rfl stVk rfl rfl (cells_len _) C3.out ?_)
        refine (HZO.out _ HON3.out.b).mono ?_
        rintro e w3 ⟨rfl, hb⟩
        have HON4 := Lib.hid (HON3.out.below hb)
        clear hb c0 c2 C3 C4
        obtain ⟨c0, -, -, -, -, c4⟩ := HC5.out _ HON4.out
        have C4 := Lib.hid c4
        clear c4 HON3
        cases zo with
        | false =>
          have hq : q2 = true := by have := J3.out; cases q2 <;> simp at this ⊢
          subst hq
          clear J3
          go_wp2_with fail
          go_meet
          exact ⟨rfl, HON4.out⟩
        | true =>
          cases qn with
          | true =>
            have hq : q2 = false := by have := J3.out; cases q2 <;> simp at this ⊢
            subst hq
            clear J3
            go_wp2_with (go_at_call 39; refine (HHN.out _).mono ?_; rintro e w' ⟨rfl, rfl⟩)
            go_meet
            exact ⟨rfl, HON4.out⟩
          | false =>
            go_wp2_with (first
              | (go_at_call 39; refine (HHN.out _).mono ?_; rintro e w' ⟨rfl, rfl⟩)
              | refine wpl_loadG rfl stVk rfl rfl (cells_len _) C4.out ?_)
            refine (HZN.out _ HON4.out.b).mono ?_
            rintro e w4 ⟨rfl, hb⟩
            have HON5 := Lib.hid (HON4.out.below hb)
            clear hb c0 C4 HON4
            have hq : q2 = !zn := by have := J3.out; cases q2 <;> cases zn <;> simp at this ⊢
            subst hq
            clear J3
            cases zn
            all_goals
              go_wp2_with fail
              go_meet
              exact ⟨rfl, HON5.out⟩
      | true =>
        cases qn with
        | true =>
          have hq : q2 = false := by have := J3.out; cases q2 <;> simp at this ⊢
          subst hq
          clear J3
          go_wp2_with (first
            | (go_at_call 38; refine (HHO.out _).mono ?_; rintro e w' ⟨rfl, rfl⟩)
            | (go_at_call 39; refine (HHN.out _).mono ?_; rintro e w' ⟨rfl, rfl⟩))
          go_meet
          exact ⟨rfl, HON3.out⟩
        | false =>
          go_wp2_with (first
            | (go_at_call 38; refine (HHO.out _).mono ?_; rintro e w' ⟨rfl, rfl⟩)
            | (go_at_call 39; refine (HHN.out _).mono ?_; rintro e w' ⟨rfl, rfl⟩)
            | refine wpl_loadG rfl stVk rfl rfl (cells_len _) C4.out ?_)
          refine (HZN.out _ HON3.out.b).mono ?_
          rintro e w4 ⟨rfl, hb⟩
          have HON5 := Lib.hid (HON3.out.below hb)
          clear hb c0 c2 C3 C4 HON3
          have hq : q2 = !zn := by have := J3.out; cases q2 <;> cases zn <;> simp at this ⊢
          subst hq
          clear J3
          cases zn
          all_goals
            go_wp2_with fail
            go_meet
            exact ⟨rfl, HON5.out⟩
  case rest =>
  clear c0 c2 C29 C3 C4
  obtain ⟨rfl, HON3⟩ := hcut
  replace HON3 := Lib.hid HON3
  clear HON2 I2 HKY HZO HZN
  cases q2 with
  | true =>
    have HF : Hid (r = 1) := HR.out
    clear HR
    go_wp2_with fail
    go_ret
    exact ⟨ri (by rw [HF.out]; rfl), HON3.out.b⟩
  | false =>
  replace HR : Hid (r = if qo = true ∧ eo ≠ 0 then eo else if qn = true then en else 0) := HR.out
  obtain ⟨c0, -, -, -, c3, -⟩ := HC5.out _ HON3.out
  have C3 := Lib.hid c3
  clear c3
  have HTAIL : Hid (qo = true → eo ≠ 0 → r = eo) := fun h1 h2 => HR.out.trans (if_pos ⟨h1, h2⟩)
  have HLAST : Hid ((qo = true → eo = 0) → r = if qn = true then en else 0) := fun h1 => HR.out.trans (if_neg (fun h => h.2 (h1 h.1)))
  clear HR
  cases qo with
  | true =>
    go_wp2_with (first
      | (go_at_call 38; refine (HHO.out _).mono ?_; rintro e w' ⟨rfl, rfl⟩)
      | refine wpl_load rfl rfl stVk rfl (cells_len _) C3.out ?_)
    refine (HVO.out _ HON3.out.b).mono ?_
    rintro e w4 ⟨rfl, hb⟩
    have HON4 := Lib.hid (HON3.out.below hb)
    clear hb c0 C3 HON3
    obtain ⟨c0, -, -, -, -, c4⟩ := HC5.out _ HON4.out
    have C4 := Lib.hid c4
    clear c4
    by_cases he : eo = 0
    case neg =>
      have HF := Lib.hid (HTAIL.out (by simp) he)
      have hq : ((eo : Int) != 0) = true := by rw [bne_iff_ne]; omega
      clear HTAIL HLAST he
      go_wp2_with fail
      go_ret
      exact ⟨ri (by rw [HF.out]), HON4.out.b⟩
    have HF := Lib.hid (HLAST.out (fun _ => he))
    subst he
    clear HTAIL HLAST
    cases qn with
    | true =>
      go_wp2_with (first
        | (go_at_call 39; refine (HHN.out _).mono ?_; rintro e w' ⟨rfl, rfl⟩)
        | refine wpl_load rfl rfl stVk rfl (cells_len _) C4.out ?_)
      refine (HVN.out _ HON4.out.b).mono ?_
      rintro e w5 ⟨rfl, hb⟩
      have HON5 := Lib.hid (HON4.out.below hb)
      clear hb
      go_wp2_with fail
      go_ret
      exact ⟨ri (by rw [HF.out]; rfl), HON5.out.b⟩
    | false =>
      go_wp2_with (go_at_call 39; refine (HHN.out _).mono ?_; rintro e w' ⟨rfl, rfl⟩)
      go_ret
      exact ⟨ri (by rw [HF.out]; rfl), HON4.out.b⟩
  | false =>
    obtain ⟨-, -, -, -, -, c4⟩ := HC5.out _ HON3.out
    have C4 := Lib.hid c4
    clear c4 C3
    have HF := Lib.hid (HLAST.out (fun h => by cases h))
    clear HTAIL HLAST
    cases qn with
    | true =>
      go_wp2_with (first
        | (go_at_call 38; refine (HHO.out _).mono ?_; rintro e w' ⟨rfl, rfl⟩)
        | (go_at_call 39; refine (HHN.out _).mono ?_; rintro e w' ⟨rfl, rfl⟩)
        | refine wpl_load rfl rfl stVk rfl (cells_len _) C4.out ?_)
      refine (HVN.out _ HON3.out.b).mono ?_
      rintro e w5 ⟨rfl, hb⟩
      have HON5 := Lib.hid (HON3.out.below hb)
      clear hb
      go_wp2_with fail
      go_ret
      exact ⟨ri (by rw [HF.out]; rfl), HON5.out.b⟩
    | false =>
      go_wp2_with (first
        | (go_at_call 38; refine (HHO.out _).mono ?_; rintro e w' ⟨rfl, rfl⟩)
        | (go_at_call 39; refine (HHN.out _).mono ?_; rintro e w' ⟨rfl, rfl⟩))
      go_ret
      exact ⟨ri (by rw [HF.out]; rfl), HON3.out.b⟩
end Go.Proofs.YthdninnjjmhpfaaGreatDoor

namespace Go.Proofs.YthdninnjjmhpfaaGreatDoor
open Go.RowKit
set_option maxHeartbeats 8000000
set_option maxRecDepth 100000

theorem One_any (x : Ch) (c : CC) (w : World) (hno : nodV x.o ≤ 1000000) (hnn : nodV x.n ≤ 1000000) (hx : RdC w (fun _ => True) c x) :
    Calls Tryz.prog 46 #[aggC c] w fun e w' => e = .returned (.int .i64 (oneC x : Nat)) ∧ Below w.heap.size w w' := by
  obtain ⟨r, hr⟩ : ∃ r : Nat, r = oneC x := ⟨_, rfl⟩
  rw [← hr]
  unfold oneC at hr
  obtain ⟨q1, hq1⟩ : ∃ q, q = !arg1 x := ⟨_, rfl⟩
  have i1 := arg1_iff x
  have i2 := arg2_iff x
  have a1 : arg1 x = !q1 := by rw [hq1, Bool.not_not]
  rw [a1] at hr i1
  clear hq1 a1
  have i3 := oldB_is x.op
  have i4 := newB_is x.op
  have i5 := movB_is x.op
  have HPV := Lib.hid (fun w' (hb : Below w.heap.size w w') => RValid_any c.p x.p w' (hx.p.below hb))
  have HBK := Lib.hid (fun w' (hb : Below w.heap.size w w') => byKey_any c.p x.p w' (hx.p.below hb))
  have HMV : Hid (∀ w' : World, Calls Tryz.prog 75 #[.agg c.cells.toArray] w' fun e w2 => e = .returned (.bool (movB x.op)) ∧ Below w'.heap.size w' w2) := fun w' => moves_any c w' _ (by rw [hx.op]; rfl)
  have HZO : Hid (∀ w', Below w.heap.size w w' → Calls Tryz.prog 87 #[.agg c.o.cells.toArray] w' fun e w2 => e = .returned (.bool (zeroV x.o)) ∧ Below w'.heap.size w' w2) := fun w' hb => zeroR_any x.o c.o w' (hx.o.stays hb)
  have HZN : Hid (∀ w', Below w.heap.size w w' → Calls Tryz.prog 87 #[.agg c.n.cells.toArray] w' fun e w2 => e = .returned (.bool (zeroV x.n)) ∧ Below w'.heap.size w' w2) := fun w' hb => zeroR_any x.n c.n w' (hx.n.stays hb)
  have HVO : Hid (∀ w', Below w.heap.size w w' → Calls Tryz.prog 13 #[.agg c.o.cells.toArray] w' fun e w2 => e = .returned (.int .i64 (checkV x.o : Nat)) ∧ Below w'.heap.size w' w2) := fun w' hb => Check7_any x.o c.o w' hno (hx.o.stays hb)
  have HVN : Hid (∀ w', Below w.heap.size w w' → Calls Tryz.prog 13 #[.agg c.n.cells.toArray] w' fun e w2 => e = .returned (.int .i64 (checkV x.n : Nat)) ∧ Below w'.heap.size w' w2) := fun w' hb => Check7_any x.n c.n w' hnn (hx.n.stays hb)
  obtain ⟨a, cap, hp, -, -⟩ := hx.p
  have hop := hx.op
  have hpos := hx.pos
  have HC5 : Hid (∀ w', OnW w w' c → w'.cell? ⟨w.heap.size, 0, none⟩ = some (.int .i64 x.op) ∧ w'.cell? ⟨w.heap.size, 1, none⟩ = some (.slice a x.p.length cap) ∧ w'.cell? ⟨w.heap.size, 2, none⟩ = some (.int .i64 x.pos) ∧ (∀ j, j < 29 → w'.cell? ⟨w.heap.size, 0 + j, none⟩ = c.cells[j]?) ∧ (∀ j, j < 13 → w'.cell? ⟨w.heap.size, 3 + j, none⟩ = c.o.cells[j]?) ∧ (∀ j, j < 13 → w'.cell? ⟨w.heap.size, 16 + j, none⟩ = c.n.cells[j]?)) := by
    intro w' h
    have := rowC5 h.x
    rw [hop, hpos, hp] at this
    exact this
  rw [hp] at HPV HBK
  have HIN : Hid (∀ w1 : World, w.alloc (.cells (CC.cells c).toArray 54) = w1 → OnW w w1 c) := fun w1 hW => by
    obtain ⟨hx0, _, hz0, hb0⟩ := alloc_of hW
    exact ⟨hb0, hx0, by omega⟩
  clear hx hp hop hpos hno hnn
  generalize zeroV x.o = zo at *
  generalize zeroV x.n = zn at *
  generalize checkV x.o = eo at *
  generalize checkV x.n = en at *
  generalize movB x.op = qm at *
  generalize lastK x.p = ql at *
  generalize oldB x.op = qo at *
  generalize newB x.op = qn at *
  generalize validP x.p = qv at *
  generalize arg2 x = b2 at *
  generalize x.p.length = n at *
  generalize x.op = op at *
  generalize x.pos = pos at *
  have HR := Lib.hid hr
  have I1 := Lib.hid i1
  have I2 := Lib.hid i2
  have I3 := Lib.hid i3
  have I4 := Lib.hid i4
  have I5 := Lib.hid i5
  clear hr i1 i2 i3 i4 i5
  go_enter Tryz.func46, Tryz.ntmps46
  go_upto_region 1 with fail
  generalize hW : World.alloc w _ = w1
  have HON := Lib.hid (HIN.out w1 hW)
  obtain ⟨c0, c1, c2, c29, -, -⟩ := HC5.out _ HON.out
  have C29 := Lib.hid c29
  clear hW HIN c29
  go_cut [28] (fun v wx => v = .bool q1 ∧ OnW w wx c)
  case first =>
    clear HZO HZN HVO HVN I2 HR c2 HBK I3 I4
    by_cases h1 : op < 1
    · have hq : q1 = true := by have := I1.out; cases q1 <;> simp at this ⊢ <;> omega
      subst hq
      clear I1
      go_wp2_with fail
      go_meet
      exact ⟨rfl, HON.out⟩
    by_cases h4 : 4 < op
    · have hq : q1 = true := by have := I1.out; cases q1 <;> simp at this ⊢ <;> omega
      subst hq
      clear I1
      go_wp2_with fail
      go_meet
      exact ⟨rfl, HON.out⟩
    have J1 : Hid ((!q1) = true ↔ qv = true ∧ ¬ (n = 0 ∧ qm = true)) := by
      unfold Hid
      rw [I1.out, I5.out]
      exact ⟨fun h => h.2, fun h => ⟨by omega, h⟩⟩
    clear I1 I5
    go_wp2_with fail
    refine (HPV.out _ HON.out.b).mono ?_
    rintro e w2 ⟨rfl, hb⟩
    have HON2 := Lib.hid (HON.out.below hb)
    clear hb c0 c1 C29 HON HPV
    obtain ⟨c0, c1, -, c29, -, -⟩ := HC5.out _ HON2.out
    have C29 := Lib.hid c29
    clear c29
    cases qv with
    | false =>
      have hq : q1 = true := by have := J1.out; cases q1 <;> simp at this ⊢
      subst hq
      clear J1
      go_wp2_with fail
      go_meet
      exact ⟨rfl, HON2.out⟩
    | true =>
    go_wp2_with (refine wpl_loadG rfl stC rfl rfl (ccells_len _) C29.out ?_)
    refine (HMV.out _).mono ?_
    rintro e w3 ⟨rfl, hb⟩
    have HON3 := Lib.hid (HON2.out.below hb)
    clear hb c0 c1 C29 HON2
    obtain ⟨-, c1, -, -, -, -⟩ := HC5.out _ HON3.out
    cases qm with
    | false =>
      have hq : q1 = false := by have := J1.out; cases q1 <;> simp at this ⊢
      subst hq
      clear J1
      go_wp2_with fail
      go_meet
      exact ⟨rfl, HON3.out⟩
    | true =>
      by_cases hn : n = 0
      · have hq : q1 = true := by have := J1.out; cases q1 <;> simp at this ⊢; omega
        subst hq hn
        clear J1
        go_wp2_with fail
        go_meet
        exact ⟨rfl, HON3.out⟩
      · have hq : q1 = false := by have := J1.out; cases q1 <;> simp at this ⊢; omega
        have hn' : ((n : Int) == 0) = false := by rw [beq_eq_false_iff_ne]; omega
        subst hq
        clear J1 hn
        go_wp2_with fail
        go_meet
        exact ⟨rfl, HON3.out⟩
  case rest =>
  clear c0 c1 c2 C29
  obtain ⟨rfl, HON2⟩ := hcut
  replace HON2 := Lib.hid HON2
  clear HON HPV
  cases q1 with
  | true =>
    have HF : Hid (r = 1) := HR.out
    clear HR
    go_wp2_with fail
    go_ret
    exact ⟨ri (by rw [HF.out]; rfl), HON2.out.b⟩
  | false =>
  replace HR : Hid (r = if b2 = false then 1 else if qo = true ∧ eo ≠ 0 then eo else if qn = true then en else 0) := HR.out
  have HOP : Hid (op = 1 ∨ op = 2 ∨ op = 3 ∨ op = 4) := (I1.out.1 rfl).1
  obtain ⟨c0, c1, c2, c29, -, -⟩ := HC5.out _ HON2.out
  have C29 := Lib.hid c29
  clear c29 I1
  obtain ⟨q3, hq3⟩ : ∃ q : Bool, q = decide (pos < 0 ∨ 65536 < pos ∨ 0 < pos ∧ (qm && ql) = false) := ⟨_, rfl⟩
  have I6 : Hid (q3 = true ↔ pos < 0 ∨ 65536 < pos ∨ 0 < pos ∧ (qm && ql) = false) := by unfold Hid; rw [hq3, decide_eq_true_iff]
  clear hq3
  go_upto_region 3 with fail
  go_cut [51] (fun v wx => v = .bool q3 ∧ OnW w wx c)
  case first =>
    clear HR HVO HVN I2 HZO HZN I3 I4 I5 HOP
    by_cases hp : pos < 0
    · have hq : q3 = true := I6.out.2 (.inl hp)
      subst hq
      clear I6
      go_wp2_with fail
      go_meet
      exact ⟨rfl, HON2.out⟩
    by_cases hp2 : 65536 < pos
    · have hq : q3 = true := I6.out.2 (.inr (.inl hp2))
      subst hq
      have hp' : ((65536 : Int) < pos) = True := eq_true hp2
      clear I6 hp2
      go_wp2_with fail
      go_meet
      exact ⟨rfl, HON2.out⟩
    have hp' : ((65536 : Int) < pos) = False := eq_false hp2
    by_cases hp0 : 0 < pos
    case neg =>
      have hq : q3 = false := by have := I6.out; cases q3 <;> simp at this ⊢; omega
      subst hq
      clear I6 hp2
      go_wp2_with fail
      go_meet
      exact ⟨rfl, HON2.out⟩
    have J6 : Hid (q3 = true ↔ (qm && ql) = false) := by
      unfold Hid
      rw [I6.out]
      exact ⟨fun h => h.elim (fun h => absurd h hp) (fun h => h.elim (fun h => absurd h hp2) (fun h => h.2)), fun h => .inr (.inr ⟨hp0, h⟩)⟩
    clear I6 hp2
    go_wp2_with (refine wpl_loadG rfl stC rfl rfl (ccells_len _) C29.out ?_)
    refine (HMV.out _).mono ?_
    rintro e w3 ⟨rfl, hb⟩
    have HON3 := Lib.hid (HON2.out.below hb)
    clear hb c0 c1 c2 C29 HON2
    obtain ⟨-, c1, c2, -, -, -⟩ := HC5.out _ HON3.out
    cases qm with
    | false =>
      have hq : q3 = true := by have := J6.out; cases q3 <;> simp at this ⊢
      subst hq
      clear J6
      go_wp2_with fail
      go_meet
      exact ⟨rfl, HON3.out⟩
    | true =>
      go_wp2_with fail
      refine (HBK.out _ HON3.out.b).mono ?_
      rintro e w4 ⟨rfl, hb⟩
      have HON4 := Lib.hid (HON3.out.below hb)
      clear hb c1 c2 HON3
      have hq : q3 = !ql := by have := J6.out; cases q3 <;> cases ql <;> simp at this ⊢
      subst hq
      clear J6
      cases ql
      all_goals
        go_wp2_with fail
        go_meet
        exact ⟨rfl, HON4.out⟩
  case rest =>
  clear c0 c1 c2 C29
  obtain ⟨rfl, HON3⟩ := hcut
  replace HON3 := Lib.hid HON3
  clear HON2 HMV HBK I5
  cases q3 with
  | true =>
    have HF : Hid (r = 1) := by
      unfold Hid
      have hb2 : b2 = false := by
        have h := I6.out.1 rfl
        have h2 := I2.out
        cases b2
        · rfl
        · exfalso
          have h2 := h2.1 rfl
          rcases h with h | h | ⟨h, h'⟩
          · exact h2.1 h
          · exact h2.2.1 h
          · rw [h'] at h2
            rcases h2.2.2.1 with h3 | h3
            · omega
            · cases h3
      rw [HR.out, if_pos hb2]
    clear HR I6 I2 I3 I4
    go_wp2_with fail
    go_ret
    exact ⟨ri (by rw [HF.out]; rfl), HON3.out.b⟩
  | false =>
  have J2 : Hid (b2 = true ↔ (qo = true ∨ zo = true) ∧ (qn = true ∨ zn = true)) := by
    unfold Hid
    have h6 := I6.out
    rw [I2.out]
    refine ⟨fun h => h.2.2.2, fun h => ?_⟩
    have h7 : ¬ (pos < 0 ∨ 65536 < pos ∨ 0 < pos ∧ (qm && ql) = false) := fun h => by cases h6.2 h
    refine ⟨fun h => h7 (.inl h), fun h => h7 (.inr (.inl h)), ?_, h⟩
    by_cases hp : pos = 0
    · exact .inl hp
    · right
      cases hk : (qm && ql)
      · exact absurd (.inr (.inr ⟨by have := mt Or.inl h7; omega, hk⟩)) h7
      · rfl
  clear I6 I2
  obtain ⟨c0, -, -, -, c3, c4⟩ := HC5.out _ HON3.out
  have C3 := Lib.hid c3
  have C4 := Lib.hid c4
  clear c3 c4
  rcases HOP.out with rfl | rfl | rfl | rfl
  · -- replace
    have QO : qo = true := I3.out.2 (by omega)
    have QN : qn = true := I4.out.2 (by omega)
    subst QO QN
    have HB2 : b2 = true := J2.out.2 ⟨.inl rfl, .inl rfl⟩
    subst HB2
    replace HR : Hid (r = if eo ≠ 0 then eo else en) := by unfold Hid; rw [HR.out]; simp
    clear J2 I3 I4 HOP
    go_wp2_with (refine wpl_load rfl rfl stVk rfl (cells_len _) C3.out ?_)
    refine (HVO.out _ HON3.out.b).mono ?_
    rintro e w5 ⟨rfl, hb⟩
    have HON5 := Lib.hid (HON3.out.below hb)
    clear hb
    obtain ⟨-, -, -, -, -, k4⟩ := HC5.out _ HON5.out
    have K4 := Lib.hid k4
    clear k4
    by_cases he : eo = 0
    case neg =>
      have HF : Hid (r = eo) := by unfold Hid; rw [HR.out, if_pos he]
      have hq : ((eo : Int) != 0) = true := by rw [bne_iff_ne]; omega
      clear HR he
      go_wp2_with fail
      go_ret
      exact ⟨ri (by rw [HF.out]), HON5.out.b⟩
    subst he
    have HF : Hid (r = en) := by unfold Hid; rw [HR.out]; simp
    clear HR
    go_wp2_with (refine wpl_load rfl rfl stVk rfl (cells_len _) K4.out ?_)
    refine (HVN.out _ HON5.out.b).mono ?_
    rintro e w6 ⟨rfl, hb⟩
    have HON6 := Lib.hid (HON5.out.below hb)
    clear hb
    go_wp2_with fail
    go_ret
    exact ⟨ri (by rw [HF.out]), HON6.out.b⟩
  · -- insert
    have QO : qo = false := by have := I3.out; cases qo <;> simp at this ⊢
    have QN : qn = true := I4.out.2 (by omega)
    subst QO QN
    clear I3 I4 HOP
    go_wp2_with (refine wpl_loadG rfl stVk rfl rfl (cells_len _) C3.out ?_)
    refine (HZO.out _ HON3.out.b).mono ?_
    rintro e w4 ⟨rfl, hb⟩
    have HON4 := Lib.hid (HON3.out.below hb)
    clear hb c0 C3 C4
    obtain ⟨c0, -, -, -, -, c4⟩ := HC5.out _ HON4.out
    have C4 := Lib.hid c4
    clear c4 HON3
    have HB2 : b2 = zo := by have := J2.out; cases b2 <;> cases zo <;> simp at this ⊢
    subst HB2
    clear J2
    cases b2 with
    | false =>
      have HF : Hid (r = 1) := HR.out
      clear HR
      go_wp2_with fail
      go_ret
      exact ⟨ri (by rw [HF.out]; rfl), HON4.out.b⟩
    | true =>
    have HF : Hid (r = en) := by unfold Hid; rw [HR.out]; simp
    clear HR
    go_wp2_with (refine wpl_load rfl rfl stVk rfl (cells_len _) C4.out ?_)
    refine (HVN.out _ HON4.out.b).mono ?_
    rintro e w6 ⟨rfl, hb⟩
    have HON6 := Lib.hid (HON4.out.below hb)
    clear hb
    go_wp2_with fail
    go_ret
    exact ⟨ri (by rw [HF.out]), HON6.out.b⟩
  · -- remove
    have QO : qo = true := I3.out.2 (by omega)
    have QN : qn = false := by have := I4.out; cases qn <;> simp at this ⊢
    subst QO QN
    clear I3 I4 HOP
    go_wp2_with (refine wpl_loadG rfl stVk rfl rfl (cells_len _) C4.out ?_)
    refine (HZN.out _ HON3.out.b).mono ?_
    rintro e w4 ⟨rfl, hb⟩
    have HON4 := Lib.hid (HON3.out.below hb)
    clear hb c0 C3 C4
    obtain ⟨c0, -, -, -, c3, -⟩ := HC5.out _ HON4.out
    have C3 := Lib.hid c3
    clear c3 HON3
    have HB2 : b2 = zn := by have := J2.out; cases b2 <;> cases zn <;> simp at this ⊢
    subst HB2
    clear J2
    cases b2 with
    | false =>
      have HF : Hid (r = 1) := HR.out
      clear HR
      go_wp2_with fail
      go_ret
      exact ⟨ri (by rw [HF.out]; rfl), HON4.out.b⟩
    | true =>
    replace HR : Hid (r = if eo ≠ 0 then eo else 0) := by unfold Hid; rw [HR.out]; simp
    go_wp2_with (refine wpl_load rfl rfl stVk rfl (cells_len _) C3.out ?_)
    refine (HVO.out _ HON4.out.b).mono ?_
    rintro e w5 ⟨rfl, hb⟩
    have HON5 := Lib.hid (HON4.out.below hb)
    clear hb
    obtain ⟨-, -, -, -, -, k4⟩ := HC5.out _ HON5.out
    have K4 := Lib.hid k4
    clear k4
    by_cases he : eo = 0
    case neg =>
      have HF : Hid (r = eo) := by unfold Hid; rw [HR.out, if_pos he]
      have hq : ((eo : Int) != 0) = true := by rw [bne_iff_ne]; omega
      clear HR he
      go_wp2_with fail
      go_ret
      exact ⟨ri (by rw [HF.out]), HON5.out.b⟩
    subst he
    have HF : Hid (r = 0) := by unfold Hid; rw [HR.out]; simp
    clear HR
    go_wp2_with fail
    go_ret
    exact ⟨ri (by rw [HF.out]; rfl), HON5.out.b⟩
  · -- test
    have QO : qo = true := I3.out.2 (by omega)
    have QN : qn = false := by have := I4.out; cases qn <;> simp at this ⊢
    subst QO QN
    clear I3 I4 HOP
    go_wp2_with (refine wpl_loadG rfl stVk rfl rfl (cells_len _) C4.out ?_)
    refine (HZN.out _ HON3.out.b).mono ?_
    rintro e w4 ⟨rfl, hb⟩
    have HON4 := Lib.hid (HON3.out.below hb)
    clear hb c0 C3 C4
    obtain ⟨c0, -, -, -, c3, -⟩ := HC5.out _ HON4.out
    have C3 := Lib.hid c3
    clear c3 HON3
    have HB2 : b2 = zn := by have := J2.out; cases b2 <;> cases zn <;> simp at this ⊢
    subst HB2
    clear J2
    cases b2 with
    | false =>
      have HF : Hid (r = 1) := HR.out
      clear HR
      go_wp2_with fail
      go_ret
      exact ⟨ri (by rw [HF.out]; rfl), HON4.out.b⟩
    | true =>
    replace HR : Hid (r = if eo ≠ 0 then eo else 0) := by unfold Hid; rw [HR.out]; simp
    go_wp2_with (refine wpl_load rfl rfl stVk rfl (cells_len _) C3.out ?_)
    refine (HVO.out _ HON4.out.b).mono ?_
    rintro e w5 ⟨rfl, hb⟩
    have HON5 := Lib.hid (HON4.out.below hb)
    clear hb
    obtain ⟨-, -, -, -, -, k4⟩ := HC5.out _ HON5.out
    have K4 := Lib.hid k4
    clear k4
    by_cases he : eo = 0
    case neg =>
      have HF : Hid (r = eo) := by unfold Hid; rw [HR.out, if_pos he]
      have hq : ((eo : Int) != 0) = true := by rw [bne_iff_ne]; omega
      clear HR he
      go_wp2_with fail
      go_ret
      exact ⟨ri (by rw [HF.out]), HON5.out.b⟩
    subst he
    have HF : Hid (r = 0) := by unfold Hid; rw [HR.out]; simp
    clear HR
    go_wp2_with fail
    go_ret
    exact ⟨ri (by rw [HF.out]; rfl), HON5.out.b⟩
end Go.Proofs.YthdninnjjmhpfaaGreatDoor

namespace Go.Proofs.YthdninnjjmhpfaaGreatDoor
open Go.RowKit
set_option maxHeartbeats 8000000
set_option maxRecDepth 100000

def firstL (xs : List Ch) : Nat × Nat := if 4096 < xs.length then (0, 10) else firstC xs 0
def okC (xs : List Ch) : Prop := xs.length ≤ 1000000 ∧ ∀ i (hi : i < xs.length), nodV xs[i].o ≤ 1000000 ∧ nodV xs[i].n ≤ 1000000
theorem PChk_any (v : Value) (xs : List Ch) (w : World) (hok : okC xs) (hv : RdL w v xs) :
    Calls Tryz.prog 31 #[v] w fun e w' => e = .returned (.int .i64 ((firstL xs).2 : Nat)) ∧ Below w.heap.size w w' := by
  obtain ⟨r, hr⟩ : ∃ r : Nat, r = (firstL xs).2 := ⟨_, rfl⟩
  rw [← hr]
  unfold firstL at hr
  have HR := Lib.hid hr
  have HN := Lib.hid hok.2
  have hlen := hok.1
  obtain ⟨cc, ⟨a, cap, rfl, h1, ⟨h2, -⟩, h3, h4⟩, hc⟩ := hv
  have HA := Lib.hid h4
  have HC := Lib.hid hc
  clear h4 h3 hc hr hok
  by_cases hbig : 4096 < xs.length
  · have HF : Hid (r = 10) := by unfold Hid; rw [HR.out, if_pos hbig]
    have hb : (4096 : Int) < xs.length := by omega
    clear HR hbig
    go_enter Tryz.func31, Tryz.ntmps31
    go_wp2_with fail
    go_ret
    exact ⟨ri (by rw [HF.out]; rfl), Below.refl _ _⟩
  have HS : Hid (r = (firstC (xs.drop 0) 0).2) := by unfold Hid; rw [HR.out, if_neg hbig, List.drop_zero]
  have hb : ¬ (4096 : Int) < xs.length := by omega
  clear HR hbig
  go_enter Tryz.func31, Tryz.ntmps31
  go_wp2_with fail
  go_loopw [11] (fun iv wr => ∃ k : Nat, k ≤ xs.length ∧ iv = .int .i64 k ∧ Hid (r = (firstC (xs.drop k) k).2) ∧ Below w.heap.size w wr) (fun iv _ => xs.length - (intOf iv).toNat)
  case atStart => exact ⟨0, Nat.zero_le _, rfl, HS.out, Below.refl _ _⟩
  case round =>
    clear HS
    obtain ⟨k, hk, rfl, HR, hbw⟩ := hrel
    by_cases hlt : k < xs.length
    case neg =>
      have HF : Hid (r = 0) := by unfold Hid; rw [HR.out, List.drop_of_length_le (by omega)]; rfl
      clear HR
      go_wp2_with fail
      go_ret
      exact ⟨ri (by rw [HF.out]; rfl), hbw⟩
    obtain ⟨g, o, rfl, hg, hat⟩ := HA.out (by omega)
    have hrd := HC.out k hlt
    have hc29 : Hid (∀ j, j < 29 → wr.cell? ⟨g, o + k * 29 + j, none⟩ = (cc k).cells[j]?) := fun j hj => (hbw.cell hg).trans (hat k hlt j hj)
    have HONEc := Lib.hid (ccells_one hrd)
    have HBW := Lib.hid hbw
    have HO := Lib.hid (fun w' (hb : Below w.heap.size w w') => one_any xs[k] (cc k) w' (HN.out k hlt).1 (HN.out k hlt).2 (hrd.stays hb))
    have HS := HR.out
    rw [firstC_drop xs k hlt] at HS
    replace HS := Lib.hid HS
    clear hat hbw HR hrd
    generalize oneC xs[k] = e1 at *
    generalize cc k = c at *
    go_wp2_with (first
      | refine wpl_load rfl rfl stC rfl (ccells_len _) hc29.out ?_
      | (refine wpl_new rfl rfl stC rfl (cs := c.cells) rfl (ccells_len _) HONEc.out rfl rfl rfl ?_; generalize hW1 : World.alloc wr _ = w1; obtain ⟨ha1, -, hz1, hb1⟩ := alloc_of' hW1; have HA1 := Lib.hid ha1; have HB1 := Lib.hid (HBW.out.trans (hb1.mono HBW.out.size)); clear hW1 ha1 hb1)
      | refine wpl_load rfl rfl stC rfl (ccells_len _) (fun j _ => by rw [Nat.zero_add, cell_of_row _ _ _ _ _ _ HA1.out, List.getElem?_toArray]) ?_)
    refine (HO.out _ HB1.out).mono ?_
    rintro e w2 ⟨rfl, hb2⟩
    have HB2 := Lib.hid (HB1.out.trans (hb2.mono HB1.out.size))
    clear hb2 hc29 HO
    by_cases he : e1 = 0
    case neg =>
      have HF : Hid (r = e1) := by unfold Hid; rw [HS.out, if_pos he]
      have hq : ((e1 : Int) != 0) = true := by rw [bne_iff_ne]; omega
      clear HS he
      go_wp2_with fail
      go_ret
      exact ⟨ri (by rw [HF.out]), HB2.out⟩
    subst he
    have HF : Hid (r = (firstC (xs.drop (k + 1)) (k + 1)).2) := by unfold Hid; rw [HS.out]; rfl
    clear HS
    go_wp2_with fail
    exact ⟨⟨k + 1, by omega, rfl, HF, HB2.out⟩, by simp [intOf]; omega⟩
theorem RFirst_any (v : Value) (xs : List Ch) (w : World) (hok : okC xs) (hv : RdL w v xs) :
    Calls Tryz.prog 25 #[v] w fun e w' => e = .returned (.tuple #[.int .i64 ((firstL xs).1 : Nat), .int .i64 ((firstL xs).2 : Nat)]) ∧ Below w.heap.size w w' := by
  obtain ⟨r, hr⟩ : ∃ r : Nat × Nat, r = firstL xs := ⟨_, rfl⟩
  rw [← hr]
  unfold firstL at hr
  have HR := Lib.hid hr
  have HN := Lib.hid hok.2
  have hlen := hok.1
  obtain ⟨cc, ⟨a, cap, rfl, h1, ⟨h2, -⟩, h3, h4⟩, hc⟩ := hv
  have HA := Lib.hid h4
  have HC := Lib.hid hc
  clear h4 h3 hc hr hok
  by_cases hbig : 4096 < xs.length
  · have HF : Hid (r = (0, 10)) := by unfold Hid; rw [HR.out, if_pos hbig]
    have hb : (4096 : Int) < xs.length := by omega
    clear HR hbig
    go_enter Tryz.func25, Tryz.ntmps25
    go_wp2_with fail
    go_ret2
    exact ⟨rii (by rw [HF.out]; rfl) (by rw [HF.out]; rfl), Below.refl _ _⟩
  have HS : Hid (r = firstC (xs.drop 0) 0) := by unfold Hid; rw [HR.out, if_neg hbig, List.drop_zero]
  have hb : ¬ (4096 : Int) < xs.length := by omega
  clear HR hbig
  go_enter Tryz.func25, Tryz.ntmps25
  go_wp2_with fail
  go_loopw [4] (fun iv wr => ∃ k : Nat, k ≤ xs.length ∧ iv = .int .i64 k ∧ Hid (r = firstC (xs.drop k) k) ∧ Below w.heap.size w wr) (fun iv _ => xs.length - (intOf iv).toNat)
  case atStart => exact ⟨0, Nat.zero_le _, rfl, HS.out, Below.refl _ _⟩
  case round =>
    clear HS
    obtain ⟨k, hk, rfl, HR, hbw⟩ := hrel
    by_cases hlt : k < xs.length
    case neg =>
      have HF : Hid (r = (0, 0)) := by unfold Hid; rw [HR.out, List.drop_of_length_le (by omega)]; rfl
      clear HR
      go_wp2_with fail
      go_ret2
      exact ⟨rii (by rw [HF.out]; rfl) (by rw [HF.out]; rfl), hbw⟩
    obtain ⟨g, o, rfl, hg, hat⟩ := HA.out (by omega)
    have hrd := HC.out k hlt
    have hc29 : Hid (∀ j, j < 29 → wr.cell? ⟨g, o + k * 29 + j, none⟩ = (cc k).cells[j]?) := fun j hj => (hbw.cell hg).trans (hat k hlt j hj)
    have HBW := Lib.hid hbw
    have HO := Lib.hid (fun w' (hb : Below w.heap.size w w') => One_any xs[k] (cc k) w' (HN.out k hlt).1 (HN.out k hlt).2 (hrd.stays hb))
    have HS := HR.out
    rw [firstC_drop xs k hlt] at HS
    replace HS := Lib.hid HS
    clear hat hbw HR hrd
    generalize oneC xs[k] = e1 at *
    generalize cc k = c at *
    go_wp2_with (refine wpl_load rfl rfl stC rfl (ccells_len _) hc29.out ?_)
    refine (HO.out _ HBW.out).mono ?_
    rintro e w2 ⟨rfl, hb2⟩
    have HB2 := Lib.hid (HBW.out.trans (hb2.mono HBW.out.size))
    clear hb2 hc29 HO
    by_cases he : e1 = 0
    case neg =>
      have HF : Hid (r = (k, e1)) := by unfold Hid; rw [HS.out, if_pos he]
      have hq : ((e1 : Int) != 0) = true := by rw [bne_iff_ne]; omega
      clear HS he
      go_wp2_with fail
      go_ret2
      exact ⟨rii (by rw [HF.out]) (by rw [HF.out]), HB2.out⟩
    subst he
    have HF : Hid (r = firstC (xs.drop (k + 1)) (k + 1)) := by unfold Hid; rw [HS.out]; rfl
    clear HS
    go_wp2_with fail
    exact ⟨⟨k + 1, by omega, rfl, HF, HB2.out⟩, by simp [intOf]; omega⟩
theorem RChk_any (v : Value) (xs : List Ch) (w : World) (hok : okC xs) (hv : RdL w v xs) :
    Calls Tryz.prog 41 #[v] w fun e w' => e = .returned (.int .i64 ((firstL xs).2 : Nat)) ∧ Below w.heap.size w w' := by
  have HC := Lib.hid (RFirst_any v xs w hok hv)
  clear hok hv
  generalize firstL xs = r at *
  obtain ⟨i, q⟩ := r
  simp only at HC ⊢
  go_enter Tryz.func41, Tryz.ntmps41
  go_wp2_with fail
  refine HC.out.mono ?_
  rintro e w1 ⟨rfl, hb⟩
  go_wp2_with fail
  go_ret
  exact ⟨rfl, hb⟩
end Go.Proofs.YthdninnjjmhpfaaGreatDoor
