/- Sets of offsets: add walked. Conditions: strings of at most 10^8 bytes. -/
import Derived.Test.YtpkecepelcppiaaGreatDoorZd15
import Derived.Deep.DeepCutAuto
import Derived.Deep.CutBlock
namespace Go.Proofs.YtpkecepelcppiaaGreatDoor
open Go.RowKit
set_option maxHeartbeats 4000000
set_option maxRecDepth 100000

def AddP (B b n m : Nat) (lv : Value) (l : List Nat) (w : World) (e : Ending) (w' : World) : Prop :=
 e = .returned (.tuple #[]) ∧ ∃ lv', Pl B b n m lv' l w' ∧ Below B w w' ∧ (∀ x, ¬ PlB b m lv x → x < w.heap.size → w'.heap[x]? = w.heap[x]?) ∧ w.heap.size ≤ w'.heap.size ∧ (lv'.ownBlock = lv.ownBlock ∨ ∃ k, w.heap.size ≤ k ∧ lv'.ownBlock = some k)
theorem addL_bound {N : Nat} : ∀ (l o : List Nat), (∀ x ∈ o, x < N) → (∀ x ∈ l, x < N) → ∀ x ∈ addL o l, x < N := by
 intro l o ho hl x hx
 rcases (addL_mem l o x).1 hx with h | h
 ·exact ho x h
 ·exact hl x h
theorem addL_take (o l : List Nat) (k : Nat) (h : k < l.length) : addL o (l.take (k + 1)) = add1 (addL o (l.take k)) l[k] := by
 unfold addL
 rw [List.take_succ_eq_append_getElem h, List.foldl_append]
 rfl
theorem len_lt {l : List Nat} {n : Nat} (h : l.Nodup) (hb : ∀ x ∈ l, x < n) : l.length ≤ n := by
 cases n with
 | zero =>
  cases l with
  | nil => exact Nat.le_refl _
  | cons a t => exact absurd (hb a (by simp)) (Nat.not_lt_zero _)
 | succ n => exact bound_len h (fun x hx => by have := hb x hx; omega)
theorem Pl.push {B b n m : Nat} {v v3 : Value} {cur : List Nat} {x : Nat} {w2 w3 : World} (hbox : w2.heap[b]? = some (.cells #[.slice (some ⟨m, 0, none⟩) n n, v] 122 (0, 0))) (hrow : w2.rowIs m 4 n (inV (cur ++ [x])))
  (hne : b ≠ m ∧ v.ownBlock ≠ some b ∧ v.ownBlock ≠ some m ∧ B ≤ b ∧ B ≤ m) (hown2 : w2.ownsRow B 3 1 v cur.length (cur.map iv)) (hown : w3.ownsRow B 3 1 v3 (cur ++ [x]).length ((cur ++ [x]).map iv)) (hg : w2.grownBy w3 v.ownBlock) (hat : v3.ownBlock = v.ownBlock ∨ ∃ k, w2.heap.size ≤ k ∧ v3.ownBlock = some k) :
  Pl B b n m v3 (cur ++ [x]) (w3.setCell ⟨b, 1, none⟩ v3) ∧ Below B w2 (w3.setCell ⟨b, 1, none⟩ v3) ∧ (∀ y, y ≠ b → v.ownBlock ≠ some y → y < w2.heap.size → (w3.setCell ⟨b, 1, none⟩ v3).heap[y]? = w2.heap[y]?) ∧ w2.heap.size ≤ (w3.setCell ⟨b, 1, none⟩ v3).heap.size := by
 obtain ⟨n1, n2, n3, n4, n5⟩ := hne
 have hbl : b < w2.heap.size := (Array.getElem?_eq_some_iff.1 hbox).1
 have hml := hrow.lt
 have hx3 := (hg.block b hbl (fun he => n2 he.symm)).trans hbox
 have hb3 : Below B w2 w3 := ⟨hg.os, hg.tape, hg.output, hg.size, fun y hy => hg.block y (by omega) (fun he => by have := (hown2.lt y he.symm).1; omega)⟩
 have hv3 : v3.ownBlock ≠ some b ∧ v3.ownBlock ≠ some m := by
  rcases hat with h | ⟨k, hk, h⟩
  ·rw [h]; exact ⟨n2, n3⟩
  ·rw [h]
   constructor
   ·intro he; cases he; omega
   ·intro he; cases he; omega
 have hot : ∀ y, y ≠ b → (w3.setCell ⟨b, 1, none⟩ v3).heap[y]? = w3.heap[y]? := fun y hy => Below.heap_setCell w3 ⟨b, 1, none⟩ v3 y hy
 refine ⟨⟨heap_setCell_same w3 b 1 _ _ v3 hx3, hrow.of_block ((hot m (fun h => n1 h.symm)).trans (hg.block m hml (fun he => n3 he.symm))), ⟨hown.1, ?_⟩, n1, hv3.1, hv3.2, n4, n5⟩, hb3.setCell (p := ⟨b, 1, none⟩) n4 _, fun y h1 h2 h3 => (hot y h1).trans (hg.block y h3 (fun he => h2 he.symm)), by have := hg.size; simpa using this⟩
 rcases hown.2 with h | ⟨g, cap, cur', h1, hb, hg', rest⟩
 ·exact .inl h
 ·refine .inr ⟨g, cap, cur', h1, hb, (hot g (fun he => hv3.1 ?_)).trans hg', rest⟩
  rw [h1, ← he]
  rfl
theorem add_any (B b n m : Nat) (lv v : Value) (l xs : List Nat) (w : World) (h : Pl B b n m lv l w) (hn : n ≤ 100000001) (hl : l.Nodup) (hlb : ∀ x ∈ l, x < n) (hv : RdN (fun x => ¬ PlB b m lv x) w v xs) (hxb : ∀ x ∈ xs, x < n) :
  Calls Tryz.prog 84 #[.pointer (some ⟨b, 0, none⟩), v] w (AddP B b n m lv (addL l xs) w) := by
 obtain ⟨a, cap, rfl, h1, h2, h3⟩ := hv.form
 have HC := Lib.hid h3
 have HN := Lib.hid hn
 have HL := Lib.hid hl
 have HLB := Lib.hid hlb
 have HXB := Lib.hid hxb
 have HP := Lib.hid h
 have hm : (xs.length : Int) ≤ 9223372036854775807 := by simp only [maxLen] at h2; omega
 clear h hn hl hlb hv hxb h1 h2 h3
 go_enter Tryz.func84, Tryz.ntmps84
 go_wp2_with fail
 go_loopw [5, 8] (fun _ iv wr => ∃ (k : Nat) (lv' : Value), k ≤ xs.length ∧ iv = .int .i64 (k : Int) ∧ Hid (Pl B b n m lv' (addL l (xs.take k)) wr) ∧ Hid (Below B w wr ∧ (∀ x, ¬ PlB b m lv x → x < w.heap.size → wr.heap[x]? = w.heap[x]?) ∧ w.heap.size ≤ wr.heap.size ∧ (lv'.ownBlock = lv.ownBlock ∨ ∃ k, w.heap.size ≤ k ∧ lv'.ownBlock = some k))) (fun _ iv _ => xs.length - (intOf iv).toNat)
 case atStart => exact ⟨0, lv, Nat.zero_le _, rfl, by rw [List.take_zero]; exact HP.out, Below.refl _ _, fun _ _ _ => rfl, Nat.le_refl _, .inl rfl⟩
 case round =>
  obtain ⟨k, lv', hk, rfl, HQ, HF⟩ := hrel
  by_cases hlt : k < xs.length
  case neg =>
   have hge : ¬ (k : Int) < xs.length := by omega
   have HQ2 : Hid (Pl B b n m lv' (addL l xs) wr) := by
    have := HQ.out
    rw [List.take_of_length_le (by omega)] at this
    exact this
   clear HQ
   go_wp2_with fail
   go_end0
   exact ⟨rfl, lv', HQ2.out, HF.out⟩
  case pos =>
   have hlti : (k : Int) < xs.length := by omega
   obtain ⟨g, o, rfl, hg, hc⟩ := HC.out (by omega)
   have hx : xs[k] < n := HXB.out _ (List.getElem_mem hlt)
   have hcl : g < w.heap.size := by
    have h0 := hc k hlt
    rcases Nat.lt_or_ge g w.heap.size with h | h
    ·exact h
    ·simp [World.cell?, Array.getElem?_eq_none h] at h0
   have hck : wr.cell? ⟨g, o + k, none⟩ = some (.int .i64 (xs[k] : Nat)) := by
    have h0 := hc k hlt
    rw [← h0]
    unfold World.cell?
    rw [HF.out.2.1 g hg hcl]
   have HTK := Lib.hid (addL_take l xs k hlt)
   obtain ⟨p0, p1⟩ := HQ.out.cells
   have hin := HQ.out.row.cell hx
   have hfz1 := HQ.out.row.frozen xs[k]
   have hxi : ((xs[k] : Nat) : Int) < n := by omega
   have hx0 : (0 : Int) ≤ ((xs[k] : Nat) : Int) := by omega
   clear hc hg hcl
   generalize xs[k] = x at *
   unfold inV at hin
   by_cases hmem : x ∈ addL l (xs.take k)
   ·rw [decide_eq_true hmem] at hin
    have HQ2 : Hid (Pl B b n m lv' (addL l (xs.take (k + 1))) wr) := by
     unfold Hid
     rw [HTK.out, add1, if_pos hmem]
     exact HQ.out
    clear hmem
    go_wp2_with fail
    exact ⟨⟨k + 1, lv', by omega, rfl, HQ2.out, HF.out⟩, by simp [intOf]; omega⟩
   ·rw [decide_eq_false hmem] at hin
    have HM := Lib.hid hmem
    clear hmem
    go_upto_region 5 with fail
    generalize hW : World.setCell wr _ _ = w2
    have hrow := hW ▸ HQ.out.row.set x (.bool true)
    have hot : ∀ y, y ≠ m → w2.heap[y]? = wr.heap[y]? := fun y hy => hW ▸ Below.heap_setCell wr ⟨m, x, none⟩ _ _ hy
    have hbm : Below m wr w2 := hW ▸ (Below.refl _ _).setCell (p := ⟨m, x, none⟩) (Nat.le_refl _) _
    have hsz : w2.heap.size = wr.heap.size := by rw [← hW]; simp
    obtain ⟨n1, n2, n3, n4, n5⟩ := HQ.out.ne
    have hbox : w2.heap[b]? = some (.cells #[.slice (some ⟨m, 0, none⟩) n n, lv'] 122 (0, 0)) := (hot b n1).trans HQ.out.box
    have hown : w2.ownsRow B 3 1 lv' (addL l (xs.take k)).length ((addL l (xs.take k)).map iv) := by
     refine ⟨HQ.out.own.1, ?_⟩
     rcases HQ.out.own.2 with h1 | ⟨g, cap, cur, rfl, hb, hg, rest⟩
     ·exact .inl h1
     ·exact .inr ⟨g, cap, cur, rfl, hb, (hot g (fun he => n3 (by rw [he]; rfl))).trans hg, rest⟩
    have hrow2 : w2.rowIs m 4 n (inV (add1 (addL l (xs.take k)) x)) := hrow.congr (fun j _ => by
     rw [add1, if_neg HM.out]
     unfold inV
     by_cases hj : j = x
     ·rw [if_pos hj, hj, decide_eq_true (by simp)]
     ·rw [if_neg hj]
      congr 1
      simp [hj])
    have HLEN : Hid ((addL l (xs.take k)).length < 1000000000) := by
     have h1 := len_lt (addL_nodup (xs.take k) l HL.out) (addL_bound (xs.take k) l HLB.out (fun x hx => HXB.out x (List.mem_of_mem_take hx)))
     have h2 := HN.out
     unfold Hid
     omega
    have HBX := Lib.hid hbox
    have HOW := Lib.hid hown
    have HRW := Lib.hid hrow2
    have HNE : Hid (b ≠ m ∧ lv'.ownBlock ≠ some b ∧ lv'.ownBlock ≠ some m ∧ B ≤ b ∧ B ≤ m) := ⟨n1, n2, n3, n4, n5⟩
    have HF2 : Hid (Below B w w2 ∧ (∀ x, ¬ PlB b m lv x → x < w.heap.size → w2.heap[x]? = w.heap[x]?) ∧ w.heap.size ≤ w2.heap.size ∧ (lv'.ownBlock = lv.ownBlock ∨ ∃ k, w.heap.size ≤ k ∧ lv'.ownBlock = some k)) := by
     obtain ⟨f1, f2, f3, f4⟩ := HF.out
     exact ⟨f1.trans (hbm.mono n5), fun y hy hl => (hot y (fun he => hy (.inr (.inl he)))).trans (f2 y hy hl), by omega, f4⟩
    have HSZ : Hid (b < w2.heap.size ∧ m < w2.heap.size) := by have := HQ.out.lt; unfold Hid; omega
    clear hW hrow hot hbm hsz n1 n2 n3 n4 n5 hbox hown hrow2 HF p0 p1 hin hfz1 hck hx
    obtain ⟨la, lcap, hlv⟩ : ∃ la lcap, lv' = .slice la (addL l (xs.take k)).length lcap := by
     rcases HOW.out.2 with ⟨h1, h2⟩ | ⟨g, cap, cur, h1, _⟩
     ·exact ⟨none, 0, by rw [h1, h2]⟩
     ·exact ⟨_, _, h1⟩
    have HAD := Lib.hid (show add1 (addL l (xs.take k)) x = addL l (xs.take k) ++ [x] from if_neg HM.out)
    generalize addL l (xs.take k) = cur at *
    obtain ⟨cn, hcn⟩ : ∃ cn, cn = cur.length := ⟨_, rfl⟩
    rw [← hcn] at hlv
    subst hlv
    have HCN := Lib.hid hcn
    clear hcn
    have p1 : w2.cell? ⟨b, 1, none⟩ = some (.slice la cn lcap) := (cell_of_row w2 b 1 _ _ (0, 0) HBX.out).trans rfl
    go_wp2_with (at_builtin; refine wp_pushI (B := B) (x := x) (l := cur) (v := .slice la cn lcap) _ _ rfl rfl HOW.out rfl rfl rfl HLEN.out (by have := HNE.out; have := HSZ.out; omega) ?_; intro v3 w3 hown3 hg3 hat3 hfm3; obtain ⟨A3, cap3, rfl⟩ := hfm3; have HX3 := Lib.hid ((hg3.block b HSZ.out.1 (fun he => HNE.out.2.1 he.symm)).trans HBX.out); have hc3 : w3.cell? ⟨b, 1, none⟩ = some (.slice la cn lcap) := (cell_of_row w3 b 1 _ _ (0, 0) HX3.out).trans rfl; have hf3 : w3.frozen? ⟨b, 1, none⟩ = false := Lib.frozen_of_heap HX3.out 1; have HOWN3 := Lib.hid hown3; have HG3 := Lib.hid hg3; have HAT3 := Lib.hid hat3; clear hown3 hg3 hat3)
    have hpu := Pl.push HBX.out (HAD.out ▸ HRW.out) HNE.out HOW.out HOWN3.out HG3.out HAT3.out
    rw [HCN.out] at HAT3 HF2
    obtain ⟨q1, q2, q3, q4⟩ := hpu
    obtain ⟨f1, f2, f3, f4⟩ := HF2.out
    have hob : ∀ y, (Value.slice la cur.length lcap).ownBlock = some y → ¬ PlB b m lv y → y < w.heap.size → False := by
     intro y hy hn hl
     rcases f4 with h | ⟨k, hk, h⟩
     ·exact hn (.inr (.inr (h ▸ hy)))
     ·rw [h] at hy
      cases hy
      omega
    refine ⟨⟨k + 1, .slice A3 (cur.length + 1) cap3, by omega, rfl, ?_, f1.trans q2, fun y hy hl => ?_, by omega, ?_⟩, by simp [intOf]; omega⟩
    ·unfold Hid
     rw [HTK.out, HAD.out]
     exact q1
    ·refine (q3 y (fun he => hy (.inl he)) (fun he => hob y ?_ hy hl) (by omega)).trans (f2 y hy hl)
     rw [HCN.out] at he
     exact he
    ·rcases HAT3.out with h | ⟨k, hk, h⟩
     ·rcases f4 with h2 | ⟨k2, hk2, h2⟩
      ·exact .inl (h.trans h2)
      ·exact .inr ⟨k2, hk2, h.trans h2⟩
     ·exact .inr ⟨k, by omega, h⟩
end Go.Proofs.YtpkecepelcppiaaGreatDoor
