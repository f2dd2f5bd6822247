/- (*datakitref15.spot).ends walked, operator by operator; printed by gen_rzx.py. Conditions: strings of at most 10^6 bytes. -/
import Derived.Test.YtpkecepelcppiaaGreatDoorZa37
namespace Go.Proofs.YtpkecepelcppiaaGreatDoor
open Go.RowKit Go.Shelf
set_option maxHeartbeats 4000000
set_option maxRecDepth 100000

theorem MemoZ.fill {s : List UInt8} {Rb : Nat → Option RX} {Z : Nat → Prop} {w : World} (h : MemoZ s Rb Z w) {r : Nat} {p : RX} (hr : Rb r = some p) {i g : Nat} (hi : i < s.length + 1) (hg : Rb g = none) (hz : ¬ Z g) (hb : BlkB w g (s.length + 1) (memR s 48 p i)) :
  MemoZ s Rb Z (w.setCell ⟨r, i, none⟩ (svB g (s.length + 1))) ∧ KeepM Rb w (w.setCell ⟨r, i, none⟩ (svB g (s.length + 1))) ∧ BlkB (w.setCell ⟨r, i, none⟩ (svB g (s.length + 1))) g (s.length + 1) (memR s 48 p i) := by
 obtain ⟨h1, h2⟩ := h.ok.fill hr hi hg hb
 refine ⟨⟨h1, fun r2 p2 hr2 j g2 hc hz2 => ?_⟩, h2, hb.keepM hg h2⟩
 by_cases he : r2 = r
 ·subst he
  obtain ⟨f, hf, -⟩ := h.ok.rows r2 p hr
  have hf2 := hf.set i (svB g (s.length + 1))
  have hj := cell_in hf2 hc
  rw [hf2.cell hj] at hc
  by_cases hji : j = i
  ·rw [if_pos hji] at hc
   have : g2 = g := by unfold svB at hc; cases hc; rfl
   exact hz (this ▸ hz2)
  ·rw [if_neg hji] at hc
   exact h.no r2 p hr j g2 ((hf.cell hj).trans hc) hz2
 ·refine h.no r2 p2 hr2 j g2 ?_ hz2
  rw [← hc]
  unfold World.cell?
  rw [Below.heap_setCell w ⟨r, i, none⟩ _ r2 he]
theorem KeepM.cell {Rb : Nat → Option RX} {w w' : World} (h : KeepM Rb w w') {g o : Nat} (hg : g < w.heap.size) (hn : Rb g = none) : w'.cell? ⟨g, o, none⟩ = w.cell? ⟨g, o, none⟩ := by
 unfold World.cell?
 rw [h.block g hg hn]
theorem BoxS.keepM {Rb : Nat → Option RX} {b : Nat} {c : PC} {av rv : Value} {w w' : World} (h : BoxS b c av rv w) (hn : Rb b = none) (hk : KeepM Rb w w') : BoxS b c av rv w' := (hk.block b h.lt hn).trans h
def askR (b7 : Bool) (M : Nat → Nat → Prop) (i j : Nat) : Prop := if b7 = true then ¬ M i j else M i j
structure RwS (s : List UInt8) (Rb : Nat → Option RX) (Z : Nat → Prop) (w wr : World) (i : Nat) (P : Nat → Prop) : Prop where
 memo : MemoZ s Rb (fun x => Z x ∨ x = w.heap.size + 1) wr
 keep : KeepM Rb w wr
 one : BlkB wr w.heap.size (s.length + 1) (fun j => j = i)
 outB : BlkB wr (w.heap.size + 1) (s.length + 1) P
theorem RwS.congr {s : List UInt8} {Rb : Nat → Option RX} {Z : Nat → Prop} {w wr : World} {i : Nat} {P Q : Nat → Prop} (h : RwS s Rb Z w wr i P) (e : ∀ j, j < s.length + 1 → (P j ↔ Q j)) : RwS s Rb Z w wr i Q := ⟨h.memo, h.keep, h.one, h.outB.congr e⟩
theorem row_next (s : List UInt8) (sb : ByteArray) (hL : L sb = s) (hsz : s.length ≤ 1000000) (Rb : Nat → Option RX) (d : Nat) (hd : d + 1 ≤ 48) (IH0 : EndM s sb Rb d) : RowM s sb Rb (d + 1) := by
 intro Z p g i w hZ hsp hsn hop hmz hi
 have hls : s.length = sb.size := by rw [← hL]; exact L_len sb
 obtain ⟨op, lo, hh, mn, mx, l⟩ := p
 have hkd := (snd_node hsn).2
 obtain ⟨ca, av, rv, gs, hbx, hng, hsl, hnav, hkids, hrow⟩ := hsp.open
 obtain ⟨r, rfl, hrb, hrl⟩ := hrow hop
 obtain ⟨aa, acap, rfl, al1, al2, al3, al4⟩ := hsl
 have hml : (l.length : Int) ≤ 9223372036854775807 := by simp only [maxLen] at al2; omega
 have HZ := Lib.hid hZ
 have HM := Lib.hid hmz
 have HRB := Lib.hid hrb
 have HRL := Lib.hid hrl
 have HBX := Lib.hid (And.intro hbx hng)
 have HAA := Lib.hid al4
 have HNA := Lib.hid hnav
 have HKD := Lib.hid hkids
 have HSD := Lib.hid hkd
 have IH := Lib.hid IH0
 have HLS := Lib.hid hls
 obtain ⟨b7, hb7⟩ : ∃ b7, (op == 7) = b7 := ⟨_, rfl⟩
 have HMM : Hid (∀ j, j < s.length + 1 → ((i ≤ j ∧ ∀ q ∈ l, askR b7 (memR s 48 q) i j) ↔ memR s 48 (.mk op lo hh mn mx l) i j)) := by
  intro j hj
  have hk47 : ∀ q ∈ l, sndR 47 q = true := fun q hq => snd_le (by omega) (hkd q hq)
  rcases hop with h | h
  ·have h' : op = 6 := h
   subst h'
   obtain rfl : b7 = false := by rw [← hb7]; rfl
   rw [mm6 s lo hh mn mx l hk47]
   exact ⟨fun ⟨a, b⟩ => ⟨a, by omega, fun q hq => by have := b q hq; simpa [askR] using this⟩, fun ⟨a, _, b⟩ => ⟨a, fun q hq => by have := b q hq; simpa [askR] using this⟩⟩
  ·have h' : op = 7 := h
   subst h'
   obtain rfl : b7 = true := by rw [← hb7]; rfl
   rw [mm7 s lo hh mn mx l hk47]
   exact ⟨fun ⟨a, b⟩ => ⟨a, by omega, fun q hq => by have := b q hq; simpa [askR] using this⟩, fun ⟨a, _, b⟩ => ⟨a, fun q hq => by have := b q hq; simpa [askR] using this⟩⟩
 have hmk := run_make_row' (P := Tryz.prog) 84 4 (.bool false) 1 Tryz.underlying84 bool_infoZ rfl .i64 .i64 (sb.size + 1) (by omega) (by omega)
 rw [show ((sb.size + 1 : Nat) : Int) = (sb.size : Int) + 1 by omega] at hmk
 have hii : (i : Int) < (sb.size : Int) + 1 := by omega
 have hii2 : (i : Int) ≤ (sb.size : Int) := by omega
 have hsbi : (sb.size : Int) ≤ 1000000 := by omega
 have HI := Lib.hid hi
 obtain ⟨t0, t1, t2, t3, t4, t6, t7⟩ := hbx.cells
 simp only [hls, svB] at t0 t1 t2 t3 t4 t6 t7
 have hcr := memo_cell hmz.ok hrb hi
 have hfr : w.frozen? ⟨r, i, none⟩ = false := by
  obtain ⟨f, hf, -⟩ := hmz.ok.rows r _ hrb
  exact hf.frozen i
 simp only [ptrS]
 clear hZ hsp hsn hop hmz hi hbx hng al1 al2 al3 al4 hnav hkids hkd hrow hrb hrl IH0 hls hL hsz
 rcases hcr with hcr | ⟨gm, hcr, hgm, hbm⟩
 case inr =>
  have HR := Lib.hid (And.intro hgm (And.intro hbm (HM.out.no r _ HRB.out i gm hcr)))
  simp only [HLS.out, svB] at hcr
  clear hgm hbm
  go_enter Tryz.func90, Tryz.ntmps90
  go_wp2_with fail
  go_ret
  refine ⟨gm, by rw [HLS.out]; rfl, HR.out.1, HR.out.2.2, HR.out.2.1, HM.out, KeepM.refl _ _⟩
 case inl =>
  go_enter Tryz.func90, Tryz.ntmps90
  go_upto_region 4 with fail
  generalize hW : World.alloc w _ = w1
  have HO1 := Lib.hid (show BlkB w1 w.heap.size (sb.size + 1) (fun _ => False) from hW ▸ blk_made w (sb.size + 1))
  have HB1 : Hid (Below w.heap.size w w1) := hW ▸ (Below.refl _ _).alloc (Nat.le_refl _) _
  have HZ1 : Hid (w1.heap.size = w.heap.size + 1) := by unfold Hid; rw [← hW]; simp
  clear hW
  obtain ⟨x0, hx0⟩ : ∃ x, w1.cell? ⟨w.heap.size, i, none⟩ = some x := ⟨_, HO1.out.cell (by have := HI.out; rw [HLS.out] at this; exact this)⟩
  have hfo := HO1.out.frozen i
  go_upto_region 5 with fail
  generalize hW : World.setCell w1 _ _ = w2
  have HO2 := Lib.hid (show BlkB w2 w.heap.size (sb.size + 1) (fun j => j = i) from hW ▸ HO1.out.put i true _ (fun j _ hne => ⟨fun h => absurd h hne, fun h => h.elim⟩) ⟨fun _ => rfl, fun _ => rfl⟩)
  have HB2 : Hid (Below w.heap.size w w2) := hW ▸ HB1.out.setCell (p := ⟨w.heap.size, i, none⟩) (Nat.le_refl _) _
  have HZ2 : Hid (w2.heap.size = w.heap.size + 1) := by unfold Hid; rw [← hW, ← HZ1.out]; simp
  clear hW hx0 hfo HO1 HB1 HZ1
  go_upto_region 6 with fail
  have hz2 := HZ2.out
  rw [hz2]
  generalize hW : World.alloc w2 _ = w3
  have HOB := Lib.hid (show BlkB w3 (w.heap.size + 1) (sb.size + 1) (fun j => i ≤ j ∧ j < i) from by
   have := blk_made w2 (sb.size + 1)
   rw [hW, hz2] at this
   exact this.congr (fun j _ => ⟨fun h => h.elim, fun h => by omega⟩))
  have hb3 : Below w2.heap.size w2 w3 := hW ▸ (Below.refl _ _).alloc (Nat.le_refl _) _
  have HON := Lib.hid (HO2.out.stay hb3)
  have HB3 := Lib.hid (HB2.out.trans (hb3.mono HB2.out.size))
  clear hW hb3 hz2 HO2 HB2 HZ2 hmk
  go_wp2_with fail
  go_loopw [9] (fun iv wr => ∃ k : Nat, i ≤ k ∧ k ≤ sb.size + 1 ∧ iv = .int .i64 (k : Int) ∧ Hid (BlkB wr (w.heap.size + 1) (sb.size + 1) (fun j => i ≤ j ∧ j < k)) ∧ Hid (BlkB wr w.heap.size (sb.size + 1) (fun j => j = i)) ∧ Hid (Below w.heap.size w wr)) (fun iv _ => sb.size + 1 - (intOf iv).toNat)
  case atStart => exact ⟨i, Nat.le_refl _, by omega, rfl, HOB.out, HON.out, HB3.out⟩
  case round =>
   clear HOB HON HB3
   obtain ⟨k, hik, hk, rfl, HOB, HON, HB3⟩ := hrel
   by_cases hlt : k ≤ sb.size
   case pos =>
    have hlti : (k : Int) ≤ sb.size := by omega
    have hlti2 : (k : Int) < (sb.size : Int) + 1 := by omega
    obtain ⟨x0, hx0⟩ : ∃ x, wr.cell? ⟨w.heap.size + 1, k, none⟩ = some x := ⟨_, HOB.out.cell (by omega)⟩
    have hfo := HOB.out.frozen k
    have HO2 := Lib.hid (show BlkB (wr.setCell ⟨w.heap.size + 1, k, none⟩ (.bool true)) (w.heap.size + 1) (sb.size + 1) (fun j => i ≤ j ∧ j < k + 1) from HOB.out.put k true _ (fun j _ hne => by omega) ⟨fun _ => by omega, fun _ => rfl⟩)
    have HN2 := Lib.hid (HON.out.keep (Below.heap_setCell wr ⟨w.heap.size + 1, k, none⟩ (.bool true) w.heap.size (by show w.heap.size ≠ w.heap.size + 1; omega)))
    have HB4 := Lib.hid (HB3.out.setCell (p := ⟨w.heap.size + 1, k, none⟩) (by show _ ≤ w.heap.size + 1; omega) (.bool true))
    clear hlt
    go_wp2_with fail
    exact ⟨⟨k + 1, by omega, by omega, by simp, HO2.out, HN2.out, HB4.out⟩, by simp [intOf]; omega⟩
   case neg =>
    have hge : ¬ (k : Int) ≤ sb.size := by omega
    have hmz2 : MemoZ s Rb (fun x => Z x ∨ x = w.heap.size + 1) wr := (HM.out.late HB3.out).mono (fun x hx => hx.elim .inl (fun h => .inr (by omega)))
    have HX0 : Hid (RwS s Rb Z w wr i (fun j => i ≤ j ∧ ∀ q ∈ l.take 0, askR b7 (memR s 48 q) i j)) := by
     have hls := HLS.out
     refine ⟨hmz2, KeepM.below HB3.out, by rw [hls]; exact HON.out, ?_⟩
     rw [hls]
     exact HOB.out.congr (fun j hj => ⟨fun h => ⟨h.1, fun q hq => by simp at hq⟩, fun h => ⟨h.1, by omega⟩⟩)
    clear hlt HOB HON HB3 hmz2
    go_wp2_with fail
    go_loopw [10, 11, 12] (fun nv _ _ wr => ∃ k : Nat, k ≤ l.length ∧ nv = .int .i64 (k : Int) ∧ Hid (RwS s Rb Z w wr i (fun j => i ≤ j ∧ ∀ q ∈ l.take k, askR b7 (memR s 48 q) i j))) (fun nv _ _ _ => l.length - (intOf nv).toNat)
    case atStart => exact ⟨0, Nat.zero_le _, rfl, HX0.out⟩
    case round =>
     clear HX0 hge
     obtain ⟨k, hk, rfl, HX⟩ := hrel
     obtain ⟨t0, t1, t2, t3, t4, t6, t7⟩ := (HBX.out.1.keepM HBX.out.2 HX.out.keep).cells
     simp only [HLS.out, svB] at t0 t1 t2 t3 t4 t6 t7
     by_cases hlt : k < l.length
     case neg =>
      have hgek : ¬ (k : Int) < l.length := by omega
      have HXF : Hid (RwS s Rb Z w wr i (memR s 48 (.mk op lo hh mn mx l) i)) := HX.out.congr (fun j hj => by
       rw [← HMM.out j hj, List.take_of_length_le (by omega)])
      obtain ⟨f, hf, -⟩ := HXF.out.memo.ok.rows r _ HRB.out
      obtain ⟨x0, hx0⟩ : ∃ x, wr.cell? ⟨r, i, none⟩ = some x := ⟨_, hf.cell HI.out⟩
      have hfo := hf.frozen i
      have hnb : Rb (w.heap.size + 1) = none := HM.out.ok.new (by omega)
      obtain ⟨f1, f2, f3⟩ := (HXF.out.memo.mono (Y := Z) (fun x hx => .inl hx)).fill HRB.out HI.out hnb (fun hz => by have := HZ.out _ hz; omega) HXF.out.outB
      have HOK : Hid (RetM s Rb Z (memR s 48 (.mk op lo hh mn mx l) i) w (.returned (.slice (some ⟨w.heap.size + 1, 0, none⟩) (sb.size + 1) (sb.size + 1))) (wr.setCell ⟨r, i, none⟩ (.slice (some ⟨w.heap.size + 1, 0, none⟩) (sb.size + 1) (sb.size + 1)))) := by
       rw [← HLS.out]
       exact ⟨w.heap.size + 1, rfl, hnb, fun hz => by have := HZ.out _ hz; omega, f3, f1, HXF.out.keep.trans f2⟩
      clear hlt hf hnb f1 f2 f3 HX HXF
      go_wp2_with fail
      go_ret
      exact HOK.out
     case pos =>
      have hlti : (k : Int) < l.length := by omega
      obtain ⟨ga, oa, rfl, hga, hca⟩ := HAA.out (by omega)
      have hcp : wr.cell? ⟨ga, oa + k, none⟩ = some (.pointer (some ⟨gs k, 0, none⟩)) := by
       have h := hca k hlt 0 (by omega)
       rw [Nat.mul_one, Nat.add_zero] at h
       rw [HX.out.keep.cell hga (HNA.out ga oa _ _ rfl (by omega)), h]
       rfl
      have HKQ := Lib.hid ((HKD.out k hlt).keepM HX.out.keep)
      have HSQ := Lib.hid (HSD.out _ (List.getElem_mem hlt))
      have HTK := Lib.hid (List.take_succ_eq_append_getElem hlt)
      clear hca hga
      generalize l[k] = q at *
      have HCL := Lib.hid (IH.out (fun x => Z x ∨ x = w.heap.size + 1) q (gs k) (fun j => j = i) w.heap.size wr (fun x hx => by
        have h1 := HX.out.outB.lt
        have h2 := HX.out.keep.size
        rcases hx with hx | hx
        ·have := HZ.out x hx; omega
        ·omega) HKQ.out HSQ.out HX.out.memo (HM.out.ok.new (Nat.le_refl _)) (fun hx => by
        rcases hx with hx | hx
        ·have := HZ.out _ hx; omega
        ·omega) HX.out.one)
      simp only [HLS.out, svB, ptrS] at HCL
      go_wp2_with fail
      refine HCL.out.mono ?_
      rintro e w6 ⟨a, rfl, ha1, ha2, hbl, hmz6, hkm6⟩
      simp only [HLS.out, svB]
      have HX6 : Hid (RwS s Rb Z w w6 i (fun j => (i ≤ j ∧ ∀ x ∈ l.take k, askR b7 (memR s 48 x) i j) ∧ (j < i → askR b7 (memR s 48 q) i j))) := by
       have hx := HX.out
       refine RwS.congr ⟨hmz6, hx.keep.trans hkm6, hx.one.keepM (HM.out.ok.new (Nat.le_refl _)) hkm6, hx.outB.keepM (HM.out.ok.new (by omega)) hkm6⟩ (fun j _ => ⟨fun h => ⟨h, fun h2 => by omega⟩, fun h => h.1⟩)
      have HA6 : Hid (BlkB w6 a (s.length + 1) (memR s 48 q i)) := hbl.congr (fun j _ => img_one (by have := HI.out; omega) j)
      have HAN : Hid (a ≠ w.heap.size + 1) := fun he => ha2 (.inr he)
      clear ha1 ha2 hbl hmz6 hkm6 HCL HX HKQ HSQ t0 t1 t2 t3 t4 t6 t7 hcp
      go_wp2_with fail
      go_loopw [12] (fun tv wx => ∃ t : Nat, i ≤ t ∧ t ≤ sb.size + 1 ∧ tv = .int .i64 (t : Int) ∧ Hid (RwS s Rb Z w wx i (fun j => (i ≤ j ∧ ∀ x ∈ l.take k, askR b7 (memR s 48 x) i j) ∧ (j < t → askR b7 (memR s 48 q) i j))) ∧ Hid (BlkB wx a (s.length + 1) (memR s 48 q i))) (fun tv _ => sb.size + 1 - (intOf tv).toNat)
      case atStart => exact ⟨i, Nat.le_refl _, by omega, rfl, HX6.out, HA6.out⟩
      case round =>
       clear HX6 HA6
       obtain ⟨t, hit, ht, rfl, HX, HA⟩ := hrel
       by_cases htl : t ≤ sb.size
       case neg =>
        have hge : ¬ (t : Int) ≤ sb.size := by omega
        have HXN : Hid (RwS s Rb Z w wr i (fun j => i ≤ j ∧ ∀ x ∈ l.take (k + 1), askR b7 (memR s 48 x) i j)) := HX.out.congr (fun j hj => by
         have := HLS.out
         rw [HTK.out]
         constructor
         ·rintro ⟨⟨h1, h2⟩, h3⟩
          refine ⟨h1, fun x hx => ?_⟩
          rcases List.mem_append.1 hx with hx | hx
          ·exact h2 x hx
          ·rw [List.mem_singleton.1 hx]; exact h3 (by omega)
         ·rintro ⟨h1, h2⟩
          exact ⟨⟨h1, fun x hx => h2 x (List.mem_append_left _ hx)⟩, fun _ => h2 q (List.mem_append_right _ (List.mem_singleton.2 rfl))⟩)
        clear htl
        go_wp2_with fail
        exact ⟨⟨k + 1, by omega, by simp, HXN.out⟩, by simp [intOf]; omega⟩
       case pos =>
        have hti : (t : Int) ≤ sb.size := by omega
        have hti2 : (t : Int) < (sb.size : Int) + 1 := by omega
        have htm : t < s.length + 1 := by have := HLS.out; omega
        have hcb := HX.out.outB.cell htm
        have hca := HA.out.cell htm
        have hcg := (HBX.out.1.keepM HBX.out.2 HX.out.keep).cells.1
        obtain ⟨y, hy⟩ : ∃ y, bvB (memR s 48 q i) t = .bool y ∧ (y = true ↔ memR s 48 q i t) := by
         by_cases h : memR s 48 q i t
         ·exact ⟨true, bvB_true h, ⟨fun _ => h, fun _ => rfl⟩⟩
         ·exact ⟨false, bvB_false h, ⟨fun h => (by cases h), fun h2 => absurd h2 h⟩⟩
        rw [hy.1] at hca
        have HY := Lib.hid hy.2
        have HNB : Hid (Rb (w.heap.size + 1) = none) := HM.out.ok.new (by omega)
        have hfz := HX.out.outB.frozen t
        have HPUT := Lib.hid (fun (b : Bool) (hb : b = true ↔ ((i ≤ t ∧ ∀ x ∈ l.take k, askR b7 (memR s 48 x) i t) ∧ askR b7 (memR s 48 q) i t)) => show RwS s Rb Z w (wr.drew.setCell ⟨w.heap.size + 1, t, none⟩ (.bool b)) i (fun j => (i ≤ j ∧ ∀ x ∈ l.take k, askR b7 (memR s 48 x) i j) ∧ (j < t + 1 → askR b7 (memR s 48 q) i j)) ∧ BlkB (wr.drew.setCell ⟨w.heap.size + 1, t, none⟩ (.bool b)) a (s.length + 1) (memR s 48 q i) from by
         have hx := HX.out
         have hd := drewBn wr
         have hot : ∀ x, x ≠ w.heap.size + 1 → (wr.drew.setCell ⟨w.heap.size + 1, t, none⟩ (.bool b)).heap[x]? = wr.drew.heap[x]? := fun x hx => Below.heap_setCell wr.drew ⟨w.heap.size + 1, t, none⟩ _ x hx
         refine ⟨⟨(hx.memo.stay hd).set (.inr rfl) HNB.out t _, (hx.keep.trans (KeepM.below hd)).set (by omega) t _, (hx.one.stay hd).keep (hot _ (by omega)), (hx.outB.stay hd).put t b _ (fun j _ hne => ⟨fun h => ⟨h.1, fun h2 => h.2 (by omega)⟩, fun h => ⟨h.1, fun h2 => h.2 (by omega)⟩⟩) ?_⟩, (HA.out.stay hd).keep (hot _ HAN.out)⟩
         rw [hb]
         exact ⟨fun h => ⟨h.1, fun _ => h.2⟩, fun h => ⟨h.1, h.2 (by omega)⟩⟩)
        have HB7 : Hid (askR b7 (memR s 48 q) i t ↔ (y != b7) = true) := by
         unfold Hid askR
         rw [← HY.out]
         cases b7 <;> cases y <;> simp
        clear htl hy
        by_cases hbase : i ≤ t ∧ ∀ x ∈ l.take k, askR b7 (memR s 48 x) i t
        ·rw [bvB_true ⟨hbase, fun h => by omega⟩] at hcb
         have HP2 := Lib.hid (HPUT.out (y != b7) ⟨fun h => ⟨hbase, HB7.out.2 h⟩, fun h => HB7.out.1 h.2⟩)
         clear hbase HPUT htm
         go_upto_region 17 with fail
         refine wpq_region (fun w' => w'.cell? ⟨w.heap.size + 1, t, none⟩ = some (.bool true) ∧ w'.cell? ⟨a, t, none⟩ = some (.bool y) ∧ w'.cell? ⟨g, 0, none⟩ = some (.int .i64 op)) 20 (by kernel_rfl) ⟨hcb, hca, hcg⟩ (fun hHeld => ?_)
         clear hcb hca hcg
         have hfz2 : wr.drew.frozen? ⟨w.heap.size + 1, t, none⟩ = false := hfz
         clear hfz
         generalize wr.drew = wd at *
         refine wpq_tk 0 (some 75) [20] (Or.inl ⟨by rfl, fun w hSw => by (obtain ⟨y0, y1, y2⟩ := hSw; go_simp; with_reducible rfl)⟩) hHeld ?_ rfl rfl
         simp only [Act.put, sA, sZ, sS]
         refine wpq_tk 1 (some 76) [20] (Or.inl ⟨by rfl, fun w hSw => by (obtain ⟨y0, y1, y2⟩ := hSw; go_simp; with_reducible rfl)⟩) hHeld ?_ rfl rfl
         simp only [Act.put, sA, sZ, sS]
         refine wpq_tk 2 (some 77) [20] (Or.inl ⟨by rfl, fun w hSw => by (obtain ⟨y0, y1, y2⟩ := hSw; go_simp; with_reducible rfl)⟩) hHeld ?_ rfl rfl
         simp only [Act.put, sA, sZ, sS]
         refine wpq_tk 3 (some 78) [20] (Or.inl ⟨by rfl, fun w hSw => by (obtain ⟨y0, y1, y2⟩ := hSw; go_simp; with_reducible rfl)⟩) hHeld ?_ rfl rfl
         simp only [Act.put, sA, sZ, sS]
         refine wpq_tk 4 (some 79) [20] (Or.inl ⟨by rfl, fun w hSw => by (obtain ⟨y0, y1, y2⟩ := hSw; go_simp; with_reducible rfl)⟩) hHeld ?_ rfl rfl
         simp only [Act.put, sA, sZ, sS]
         refine wpq_tk 5 (some 80) [20] (Or.inl ⟨by rfl, fun w hSw => by (obtain ⟨y0, y1, y2⟩ := hSw; go_simp; with_reducible rfl)⟩) hHeld ?_ rfl rfl
         simp only [Act.put, sA, sZ, sS]
         refine wpq_tk 6 (some 81) [20] (Or.inl ⟨by rfl, fun w hSw => by (obtain ⟨y0, y1, y2⟩ := hSw; go_simp; with_reducible rfl)⟩) hHeld ?_ rfl rfl
         simp only [Act.put, sA, sZ, sS]
         refine wpq_tk 7 (some 82) [20] (Or.inl ⟨by rfl, fun w hSw => by (obtain ⟨y0, y1, y2⟩ := hSw; go_simp; with_reducible rfl)⟩) hHeld ?_ rfl rfl
         simp only [Act.put, sA, sZ, sS]
         refine wpq_tk 8 (some 83) [20] (Or.inl ⟨by rfl, fun w hSw => by (obtain ⟨y0, y1, y2⟩ := hSw; go_simp; with_reducible rfl)⟩) hHeld ?_ rfl rfl
         simp only [Act.put, sA, sZ, sS]
         refine wpq_tk 9 (some 84) [20] (Or.inl ⟨by rfl, fun w hSw => by (obtain ⟨y0, y1, y2⟩ := hSw; go_simp; with_reducible rfl)⟩) hHeld ?_ rfl rfl
         simp only [Act.put, sA, sZ, sS]
         refine wpq_tk 10 (some 85) [20] (Or.inl ⟨by rfl, fun w hSw => by (obtain ⟨y0, y1, y2⟩ := hSw; go_simp; with_reducible rfl)⟩) hHeld ?_ rfl rfl
         simp only [Act.put, sA, sZ, sS]
         refine wpq_tk 11 (some 86) [20] (Or.inl ⟨by rfl, fun w hSw => by (obtain ⟨y0, y1, y2⟩ := hSw; go_simp; with_reducible rfl)⟩) hHeld ?_ rfl rfl
         simp only [Act.put, sA, sZ, sS]
         refine wpq_tk 12 (some 87) [20] (Or.inl ⟨by rfl, fun w hSw => by (obtain ⟨y0, y1, y2⟩ := hSw; go_simp; with_reducible rfl)⟩) hHeld ?_ rfl rfl
         simp only [Act.put, sA, sZ, sS]
         refine wpq_tk 13 (some 88) [20] (Or.inl ⟨by rfl, fun w hSw => by (obtain ⟨y0, y1, y2⟩ := hSw; go_simp; with_reducible rfl)⟩) hHeld ?_ rfl rfl
         simp only [Act.put, sA, sZ, sS]
         refine wpq_tk 14 (some 89) [20] (Or.inl ⟨by rfl, fun w hSw => by (obtain ⟨y0, y1, y2⟩ := hSw; go_simp; with_reducible rfl)⟩) hHeld ?_ rfl rfl
         simp only [Act.put, sA, sZ, sS]
         refine wpq_tk 15 (some 90) [20] (Or.inl ⟨by rfl, fun w hSw => by (obtain ⟨y0, y1, y2⟩ := hSw; go_simp; with_reducible rfl)⟩) hHeld ?_ rfl rfl
         simp only [Act.put, sA, sZ, sS]
         refine wpq_tk 16 (some 91) [20] (Or.inl ⟨by rfl, fun w hSw => by (obtain ⟨y0, y1, y2⟩ := hSw; go_simp; with_reducible rfl)⟩) hHeld ?_ rfl rfl
         simp only [Act.put, sA, sZ, sS]
         refine wpq_tk 17 (some 92) [20] (Or.inl ⟨by rfl, fun w hSw => by (obtain ⟨y0, y1, y2⟩ := hSw; go_simp; with_reducible rfl)⟩) hHeld ?_ rfl rfl
         simp only [Act.put, sA, sZ, sS]
         refine wpq_tk 18 (some 93) [20] (Or.inl ⟨by rfl, fun w hSw => by (obtain ⟨y0, y1, y2⟩ := hSw; go_simp; with_reducible rfl)⟩) hHeld ?_ rfl rfl
         simp only [Act.put, sA, sZ, sS]
         refine wpq_tk 19 (some 94) [20] (Or.inl ⟨by rfl, fun w hSw => by (obtain ⟨y0, y1, y2⟩ := hSw; go_simp; with_reducible rfl)⟩) hHeld ?_ rfl rfl
         simp only [Act.put, sA, sZ, sS]
         refine wpq_end 20 (by kernel_rfl) rfl (by kernel_rfl) (fun K hK => ?_)
         obtain ⟨y0, y1, y2⟩ := hHeld
         go_simp
         refine hK.out _ _ ?_
         clear hK K y0 y1 y2
         refine wpq_done (by kernel_rfl) ?_ _
         go_simp
         go_wp2_with fail
         exact ⟨⟨t + 1, by omega, by omega, by simp, HP2.out.1, HP2.out.2⟩, by simp [intOf]; omega⟩
        ·rw [bvB_false (fun h => hbase h.1)] at hcb
         have HP2 := Lib.hid (HPUT.out false ⟨fun h => (by cases h), fun h => absurd h.1 hbase⟩)
         clear hbase HPUT htm
         go_upto_region 17 with fail
         refine wpq_region (fun w' => w'.cell? ⟨w.heap.size + 1, t, none⟩ = some (.bool false) ∧ w'.cell? ⟨a, t, none⟩ = some (.bool y) ∧ w'.cell? ⟨g, 0, none⟩ = some (.int .i64 op)) 20 (by kernel_rfl) ⟨hcb, hca, hcg⟩ (fun hHeld => ?_)
         clear hcb hca hcg
         have hfz2 : wr.drew.frozen? ⟨w.heap.size + 1, t, none⟩ = false := hfz
         clear hfz
         generalize wr.drew = wd at *
         refine wpq_tk 0 (some 75) [20] (Or.inl ⟨by rfl, fun w hSw => by (obtain ⟨y0, y1, y2⟩ := hSw; go_simp; with_reducible rfl)⟩) hHeld ?_ rfl rfl
         simp only [Act.put, sA, sZ, sS]
         refine wpq_tk 1 (some 76) [20] (Or.inl ⟨by rfl, fun w hSw => by (obtain ⟨y0, y1, y2⟩ := hSw; go_simp; with_reducible rfl)⟩) hHeld ?_ rfl rfl
         simp only [Act.put, sA, sZ, sS]
         refine wpq_tk 2 (some 77) [20] (Or.inl ⟨by rfl, fun w hSw => by (obtain ⟨y0, y1, y2⟩ := hSw; go_simp; with_reducible rfl)⟩) hHeld ?_ rfl rfl
         simp only [Act.put, sA, sZ, sS]
         refine wpq_tk 3 (some 78) [20] (Or.inl ⟨by rfl, fun w hSw => by (obtain ⟨y0, y1, y2⟩ := hSw; go_simp; with_reducible rfl)⟩) hHeld ?_ rfl rfl
         simp only [Act.put, sA, sZ, sS]
         refine wpq_tk 4 (some 79) [20] (Or.inl ⟨by rfl, fun w hSw => by (obtain ⟨y0, y1, y2⟩ := hSw; go_simp; with_reducible rfl)⟩) hHeld ?_ rfl rfl
         simp only [Act.put, sA, sZ, sS]
         refine wpq_tk 5 (some 80) [20] (Or.inl ⟨by rfl, fun w hSw => by (obtain ⟨y0, y1, y2⟩ := hSw; go_simp; with_reducible rfl)⟩) hHeld ?_ rfl rfl
         simp only [Act.put, sA, sZ, sS]
         refine wpq_tk 6 (some 81) [20] (Or.inl ⟨by rfl, fun w hSw => by (obtain ⟨y0, y1, y2⟩ := hSw; go_simp; with_reducible rfl)⟩) hHeld ?_ rfl rfl
         simp only [Act.put, sA, sZ, sS]
         refine wpq_tk 7 (some 82) [20] (Or.inr ⟨by rfl, rfl⟩) hHeld ?_ rfl rfl
         simp only [Act.put, sA, sZ, sS]
         refine wpq_tk 8 (some 83) [20] (Or.inr ⟨by rfl, rfl⟩) hHeld ?_ rfl rfl
         simp only [Act.put, sA, sZ, sS]
         refine wpq_tk 9 (some 84) [20] (Or.inr ⟨by rfl, rfl⟩) hHeld ?_ rfl rfl
         simp only [Act.put, sA, sZ, sS]
         refine wpq_tk 10 (some 85) [20] (Or.inr ⟨by rfl, rfl⟩) hHeld ?_ rfl rfl
         simp only [Act.put, sA, sZ, sS]
         refine wpq_tk 11 (some 86) [20] (Or.inr ⟨by rfl, rfl⟩) hHeld ?_ rfl rfl
         simp only [Act.put, sA, sZ, sS]
         refine wpq_tk 12 (some 87) [20] (Or.inr ⟨by rfl, rfl⟩) hHeld ?_ rfl rfl
         simp only [Act.put, sA, sZ, sS]
         refine wpq_tk 13 (some 88) [20] (Or.inr ⟨by rfl, rfl⟩) hHeld ?_ rfl rfl
         simp only [Act.put, sA, sZ, sS]
         refine wpq_tk 14 (some 89) [20] (Or.inr ⟨by rfl, rfl⟩) hHeld ?_ rfl rfl
         simp only [Act.put, sA, sZ, sS]
         refine wpq_tk 15 (some 90) [20] (Or.inr ⟨by rfl, rfl⟩) hHeld ?_ rfl rfl
         simp only [Act.put, sA, sZ, sS]
         refine wpq_tk 16 (some 91) [20] (Or.inr ⟨by rfl, rfl⟩) hHeld ?_ rfl rfl
         simp only [Act.put, sA, sZ, sS]
         refine wpq_tk 17 (some 92) [20] (Or.inr ⟨by rfl, rfl⟩) hHeld ?_ rfl rfl
         simp only [Act.put, sA, sZ, sS]
         refine wpq_tk 18 (some 93) [20] (Or.inl ⟨by rfl, fun w hSw => by (obtain ⟨y0, y1, y2⟩ := hSw; go_simp; with_reducible rfl)⟩) hHeld ?_ rfl rfl
         simp only [Act.put, sA, sZ, sS]
         refine wpq_tk 19 (some 94) [20] (Or.inl ⟨by rfl, fun w hSw => by (obtain ⟨y0, y1, y2⟩ := hSw; go_simp; with_reducible rfl)⟩) hHeld ?_ rfl rfl
         simp only [Act.put, sA, sZ, sS]
         refine wpq_end 20 (by kernel_rfl) rfl (by kernel_rfl) (fun K hK => ?_)
         obtain ⟨y0, y1, y2⟩ := hHeld
         go_simp
         refine hK.out _ _ ?_
         clear hK K y0 y1 y2
         refine wpq_done (by kernel_rfl) ?_ _
         go_simp
         go_wp2_with fail
         exact ⟨⟨t + 1, by omega, by omega, by simp, HP2.out.1, HP2.out.2⟩, by simp [intOf]; omega⟩
end Go.Proofs.YtpkecepelcppiaaGreatDoor

namespace Go.Proofs.YtpkecepelcppiaaGreatDoor
open Go.RowKit Go.Shelf
set_option maxHeartbeats 4000000
set_option maxRecDepth 100000

structure EnS (s : List UInt8) (Rb : Nat → Option RX) (Z : Nat → Prop) (w wr : World) (a : Nat) (G : Nat → Prop) : Prop where
 rb : Rb a = none
 nz : ¬ Z a
 blk : BlkB wr a (s.length + 1) G
 memo : MemoZ s Rb Z wr
 keep : KeepM Rb w wr
theorem EnS.ret {s : List UInt8} {Rb : Nat → Option RX} {Z : Nat → Prop} {w wr : World} {a : Nat} {G : Nat → Prop} (h : EnS s Rb Z w wr a G) : RetM s Rb Z G w (.returned (svB a (s.length + 1))) wr := ⟨a, rfl, h.rb, h.nz, h.blk, h.memo, h.keep⟩
theorem EnS.congr {s : List UInt8} {Rb : Nat → Option RX} {Z : Nat → Prop} {w wr : World} {a : Nat} {G H : Nat → Prop} (h : EnS s Rb Z w wr a G) (e : ∀ j, j < s.length + 1 → (G j ↔ H j)) : EnS s Rb Z w wr a H := ⟨h.rb, h.nz, h.blk.congr e, h.memo, h.keep⟩
theorem EnS.stay {s : List UInt8} {Rb : Nat → Option RX} {Z : Nat → Prop} {w wr wx : World} {a : Nat} {G : Nat → Prop} (h : EnS s Rb Z w wr a G) (hb : Below wr.heap.size wr wx) : EnS s Rb Z w wx a G := ⟨h.rb, h.nz, h.blk.stay hb, h.memo.stay hb, h.keep.trans (KeepM.below hb)⟩
theorem EnS.call {s : List UInt8} {Rb : Nat → Option RX} {Z : Nat → Prop} {w wr w6 : World} {a : Nat} {G H : Nat → Prop} {e : Ending} (h : EnS s Rb Z w wr a G) (hc : RetM s Rb Z H wr e w6) : ∃ b, e = .returned (svB b (s.length + 1)) ∧ EnS s Rb Z w w6 a G ∧ EnS s Rb Z w w6 b H := by
 obtain ⟨b, rfl, h1, h2, h3, h4, h5⟩ := hc
 exact ⟨b, rfl, ⟨h.rb, h.nz, h.blk.keepM h.rb h5, h4, h.keep.trans h5⟩, ⟨h1, h2, h3, h4, h.keep.trans h5⟩⟩
theorem EnS.join {s : List UInt8} {Rb : Nat → Option RX} {Z : Nat → Prop} {w wr wx : World} {a g : Nat} {G H : Nat → Prop} (h : EnS s Rb Z w wr a G) (hZ : ∀ x, Z x → x < w.heap.size) (hg : wr.heap.size ≤ g) (hb : BlkB wx g (s.length + 1) H) (hbe : Below wr.heap.size wr wx) : EnS s Rb Z w wx g H :=
 ⟨h.memo.ok.new hg, fun hz => by have := hZ g hz; have := h.keep.size; omega, hb, h.memo.stay hbe, h.keep.trans (KeepM.below hbe)⟩
theorem ends_m0 (s : List UInt8) (sb : ByteArray) (hL : L sb = s) (hsz : s.length ≤ 1000000) (Rb : Nat → Option RX) (d : Nat) (hd : d + 1 ≤ 48) (Z : Nat → Prop) (lo hh mn mx : Int) (l : List RX) (g : Nat) (F : Nat → Prop) (a : Nat) (w : World) (hZ : ∀ x, Z x → x < w.heap.size) (hsp : SpR (s.length + 1) Rb w g (.mk 0 lo hh mn mx l)) (hsn : sndR (d + 1) (.mk 0 lo hh mn mx l) = true) (hmz : MemoZ s Rb Z w) (hna : Rb a = none) (hnz : ¬ Z a) (hbl : BlkB w a (s.length + 1) F) :
  Calls Tryz.prog 60 #[ptrS g, .string sb, svB a (s.length + 1)] w (RetM s Rb Z (img s.length F (memR s 48 (.mk 0 lo hh mn mx l))) w) := by
 have hls : s.length = sb.size := by rw [← hL]; exact L_len sb
 have hkd := (snd_node hsn).2
 have HFW := Lib.hid (form_ways (snd_node hsn).1)
 have HSP := Lib.hid hsp
 have HSNX := Lib.hid hsn
 obtain ⟨ca, av, rv, gs, hbx, hng, hsl, hnav, hkids, -⟩ := hsp.open
 obtain ⟨aa, acap, rfl, al1, al2, al3, al4⟩ := hsl
 have hml : (l.length : Int) ≤ 9223372036854775807 := by simp only [maxLen] at al2; omega
 have HZ := Lib.hid hZ
 have HBX := Lib.hid (And.intro hbx hng)
 have HAA := Lib.hid al4
 have HNA := Lib.hid hnav
 have HKD := Lib.hid hkids
 have HSD := Lib.hid hkd
 have HS47 : Hid (∀ q ∈ l, sndR 47 q = true) := fun q hq => snd_le (by omega) (hkd q hq)
 have HLS := Lib.hid hls
 have HL := Lib.hid hL

 have HF := Lib.hid (show EnS s Rb Z w w a F from ⟨hna, hnz, hbl, hmz, KeepM.refl _ _⟩)
 have hmk := run_make_row' (P := Tryz.prog) 84 4 (.bool false) 1 Tryz.underlying84 bool_infoZ rfl .i64 .i64 (sb.size + 1) (by omega) (by omega)
 rw [show ((sb.size + 1 : Nat) : Int) = (sb.size : Int) + 1 by omega] at hmk
 have hsbi : (sb.size : Int) ≤ 1000000 := by omega
 obtain ⟨t0, t1, t2, t3, t4, t6, t7⟩ := hbx.cells
 simp only at t0 t1 t2 t3 t4 t6 t7
 clear hZ hsp hsn hmz hna hnz hbl hbx hng al1 al2 al3 al4 hnav hkids hkd  hls hL hsz
 simp only [ptrS, svB, HLS.out]
 go_enter Tryz.func60, Tryz.ntmps60
 go_upto_region 2 with fail
 generalize hW : World.alloc w _ = w1
 have hb1 : Below w.heap.size w w1 := hW ▸ (Below.refl _ _).alloc (Nat.le_refl _) _
 have HO1 := Lib.hid (show EnS s Rb Z w w1 w.heap.size (fun _ => False) from (HF.out).join HZ.out (Nat.le_refl _) (by rw [HLS.out]; exact hW ▸ blk_made w (sb.size + 1)) hb1)
 have HF1 := Lib.hid (HF.out.stay hb1)
 clear hW hb1 hmk t0 t1 t2 t3 t4 t6 t7
 obtain ⟨t0, t1, t2, t3, t4, t6, t7⟩ := (HBX.out.1.keepM HBX.out.2 HO1.out.keep).cells
 simp only at t0 t1 t2 t3 t4 t6 t7
 have HR := Lib.hid (HO1.out.congr (H := img s.length F (memR s 48 (.mk 0 lo hh mn mx l))) (fun j _ => ⟨fun h => h.elim, fun ⟨_, _, _, h⟩ => mem_op0 s 48 _ rfl _ _ h⟩))
 go_wp2_with fail
 go_ret
 have h := HR.out.ret
 rw [HLS.out] at h
 exact h
theorem ends_m1 (s : List UInt8) (sb : ByteArray) (hL : L sb = s) (hsz : s.length ≤ 1000000) (Rb : Nat → Option RX) (d : Nat) (hd : d + 1 ≤ 48) (Z : Nat → Prop) (lo hh mn mx : Int) (l : List RX) (g : Nat) (F : Nat → Prop) (a : Nat) (w : World) (hZ : ∀ x, Z x → x < w.heap.size) (hsp : SpR (s.length + 1) Rb w g (.mk 1 lo hh mn mx l)) (hsn : sndR (d + 1) (.mk 1 lo hh mn mx l) = true) (hmz : MemoZ s Rb Z w) (hna : Rb a = none) (hnz : ¬ Z a) (hbl : BlkB w a (s.length + 1) F) :
  Calls Tryz.prog 60 #[ptrS g, .string sb, svB a (s.length + 1)] w (RetM s Rb Z (img s.length F (memR s 48 (.mk 1 lo hh mn mx l))) w) := by
 have hls : s.length = sb.size := by rw [← hL]; exact L_len sb
 have hkd := (snd_node hsn).2
 have HFW := Lib.hid (form_ways (snd_node hsn).1)
 have HSP := Lib.hid hsp
 have HSNX := Lib.hid hsn
 obtain ⟨ca, av, rv, gs, hbx, hng, hsl, hnav, hkids, -⟩ := hsp.open
 obtain ⟨aa, acap, rfl, al1, al2, al3, al4⟩ := hsl
 have hml : (l.length : Int) ≤ 9223372036854775807 := by simp only [maxLen] at al2; omega
 have HZ := Lib.hid hZ
 have HBX := Lib.hid (And.intro hbx hng)
 have HAA := Lib.hid al4
 have HNA := Lib.hid hnav
 have HKD := Lib.hid hkids
 have HSD := Lib.hid hkd
 have HS47 : Hid (∀ q ∈ l, sndR 47 q = true) := fun q hq => snd_le (by omega) (hkd q hq)
 have HLS := Lib.hid hls
 have HL := Lib.hid hL

 have HF := Lib.hid (show EnS s Rb Z w w a F from ⟨hna, hnz, hbl, hmz, KeepM.refl _ _⟩)
 have hmk := run_make_row' (P := Tryz.prog) 84 4 (.bool false) 1 Tryz.underlying84 bool_infoZ rfl .i64 .i64 (sb.size + 1) (by omega) (by omega)
 rw [show ((sb.size + 1 : Nat) : Int) = (sb.size : Int) + 1 by omega] at hmk
 have hsbi : (sb.size : Int) ≤ 1000000 := by omega
 obtain ⟨t0, t1, t2, t3, t4, t6, t7⟩ := hbx.cells
 simp only at t0 t1 t2 t3 t4 t6 t7
 clear hZ hsp hsn hmz hna hnz hbl hbx hng al1 al2 al3 al4 hnav hkids hkd  hls hL hsz
 simp only [ptrS, svB, HLS.out]
 go_enter Tryz.func60, Tryz.ntmps60
 go_upto_region 2 with fail
 generalize hW : World.alloc w _ = w1
 have hb1 : Below w.heap.size w w1 := hW ▸ (Below.refl _ _).alloc (Nat.le_refl _) _
 have HO1 := Lib.hid (show EnS s Rb Z w w1 w.heap.size (fun _ => False) from (HF.out).join HZ.out (Nat.le_refl _) (by rw [HLS.out]; exact hW ▸ blk_made w (sb.size + 1)) hb1)
 have HF1 := Lib.hid (HF.out.stay hb1)
 clear hW hb1 hmk t0 t1 t2 t3 t4 t6 t7
 obtain ⟨t0, t1, t2, t3, t4, t6, t7⟩ := (HBX.out.1.keepM HBX.out.2 HO1.out.keep).cells
 simp only at t0 t1 t2 t3 t4 t6 t7
 have HR := Lib.hid (HF1.out.congr (H := img s.length F (memR s 48 (.mk 1 lo hh mn mx l))) (fun j hj => ⟨fun h => ⟨j, by omega, h, (mem_op1 s 47 _ rfl j j).2 rfl⟩, fun ⟨i, _, h, hm⟩ => by rw [(mem_op1 s 47 _ rfl i j).1 hm] at h; exact h⟩))
 go_wp2_with fail
 go_ret
 have h := HR.out.ret
 rw [HLS.out] at h
 exact h
theorem ends_m3 (s : List UInt8) (sb : ByteArray) (hL : L sb = s) (hsz : s.length ≤ 1000000) (Rb : Nat → Option RX) (d : Nat) (hd : d + 1 ≤ 48) (IH0 : EndM s sb Rb d) (Z : Nat → Prop) (lo hh mn mx : Int) (l : List RX) (g : Nat) (F : Nat → Prop) (a : Nat) (w : World) (hZ : ∀ x, Z x → x < w.heap.size) (hsp : SpR (s.length + 1) Rb w g (.mk 3 lo hh mn mx l)) (hsn : sndR (d + 1) (.mk 3 lo hh mn mx l) = true) (hmz : MemoZ s Rb Z w) (hna : Rb a = none) (hnz : ¬ Z a) (hbl : BlkB w a (s.length + 1) F) :
  Calls Tryz.prog 60 #[ptrS g, .string sb, svB a (s.length + 1)] w (RetM s Rb Z (img s.length F (memR s 48 (.mk 3 lo hh mn mx l))) w) := by
 have hls : s.length = sb.size := by rw [← hL]; exact L_len sb
 have hkd := (snd_node hsn).2
 have HFW := Lib.hid (form_ways (snd_node hsn).1)
 have HSP := Lib.hid hsp
 have HSNX := Lib.hid hsn
 obtain ⟨ca, av, rv, gs, hbx, hng, hsl, hnav, hkids, -⟩ := hsp.open
 obtain ⟨aa, acap, rfl, al1, al2, al3, al4⟩ := hsl
 have hml : (l.length : Int) ≤ 9223372036854775807 := by simp only [maxLen] at al2; omega
 have HZ := Lib.hid hZ
 have HBX := Lib.hid (And.intro hbx hng)
 have HAA := Lib.hid al4
 have HNA := Lib.hid hnav
 have HKD := Lib.hid hkids
 have HSD := Lib.hid hkd
 have HS47 : Hid (∀ q ∈ l, sndR 47 q = true) := fun q hq => snd_le (by omega) (hkd q hq)
 have HLS := Lib.hid hls
 have HL := Lib.hid hL
 have IH := Lib.hid IH0
 have HF := Lib.hid (show EnS s Rb Z w w a F from ⟨hna, hnz, hbl, hmz, KeepM.refl _ _⟩)
 have hmk := run_make_row' (P := Tryz.prog) 84 4 (.bool false) 1 Tryz.underlying84 bool_infoZ rfl .i64 .i64 (sb.size + 1) (by omega) (by omega)
 rw [show ((sb.size + 1 : Nat) : Int) = (sb.size : Int) + 1 by omega] at hmk
 have hsbi : (sb.size : Int) ≤ 1000000 := by omega
 obtain ⟨t0, t1, t2, t3, t4, t6, t7⟩ := hbx.cells
 simp only at t0 t1 t2 t3 t4 t6 t7
 clear hZ hsp hsn hmz hna hnz hbl hbx hng al1 al2 al3 al4 hnav hkids hkd IH0 hls hL hsz
 simp only [ptrS, svB, HLS.out]
 go_enter Tryz.func60, Tryz.ntmps60
 go_upto_region 2 with fail
 generalize hW : World.alloc w _ = w1
 have hb1 : Below w.heap.size w w1 := hW ▸ (Below.refl _ _).alloc (Nat.le_refl _) _
 have HO1 := Lib.hid (show EnS s Rb Z w w1 w.heap.size (fun _ => False) from (HF.out).join HZ.out (Nat.le_refl _) (by rw [HLS.out]; exact hW ▸ blk_made w (sb.size + 1)) hb1)
 have HF1 := Lib.hid (HF.out.stay hb1)
 clear hW hb1 hmk t0 t1 t2 t3 t4 t6 t7
 obtain ⟨t0, t1, t2, t3, t4, t6, t7⟩ := (HBX.out.1.keepM HBX.out.2 HO1.out.keep).cells
 simp only at t0 t1 t2 t3 t4 t6 t7
 have HX0 := Lib.hid (HF1.out.congr (H := img s.length F (catM ((l.take 0).map (memR s 48)))) (fun j hj => ⟨fun h => ⟨j, by omega, h, rfl⟩, fun ⟨i, _, h, hm⟩ => by obtain rfl : i = j := hm; exact h⟩))
 go_wp2_with fail
 go_loopw [7, 9] (fun ov nv wr => ∃ (k b : Nat), k ≤ l.length ∧ nv = .int .i64 (k : Int) ∧ ov = .slice (some ⟨b, 0, none⟩) (sb.size + 1) (sb.size + 1) ∧ Hid (EnS s Rb Z w wr b (img s.length F (catM ((l.take k).map (memR s 48)))))) (fun _ nv _ => l.length - (intOf nv).toNat)
 case atStart => exact ⟨0, a, Nat.zero_le _, rfl, rfl, HX0.out⟩
 case round =>
  clear HX0 HO1 HF1 t0 t1 t2 t3 t4 t6 t7
  obtain ⟨k, b, hk, rfl, rfl, HX⟩ := hrel
  obtain ⟨t0, t1, t2, t3, t4, t6, t7⟩ := (HBX.out.1.keepM HBX.out.2 HX.out.keep).cells
  simp only at t0 t1 t2 t3 t4 t6 t7
  by_cases hlt : k < l.length
  case neg =>
   have hge : ¬ (k : Int) < l.length := by omega
   have HR := Lib.hid (HX.out.congr (H := img s.length F (memR s 48 (.mk 3 lo hh mn mx l))) (fun j hj => by
    rw [List.take_of_length_le (by omega)]
    exact ⟨fun ⟨i, h1, h2, h3⟩ => ⟨i, h1, h2, (mm3 s lo hh mn mx l HS47.out i j).2 h3⟩, fun ⟨i, h1, h2, h3⟩ => ⟨i, h1, h2, (mm3 s lo hh mn mx l HS47.out i j).1 h3⟩⟩))
   clear hlt
   go_wp2_with fail
   go_ret
   have h := HR.out.ret
   rw [HLS.out] at h
   exact h
  case pos =>
   have hlti : (k : Int) < l.length := by omega
   obtain ⟨ga, oa, rfl, hga, hca⟩ := HAA.out (by omega)
   have hcp : wr.cell? ⟨ga, oa + k, none⟩ = some (.pointer (some ⟨gs k, 0, none⟩)) := by
    have h := hca k hlt 0 (by omega)
    rw [Nat.mul_one, Nat.add_zero] at h
    rw [HX.out.keep.cell hga (HNA.out ga oa _ _ rfl (by omega)), h]
    rfl
   have HKQ := Lib.hid ((HKD.out k hlt).keepM HX.out.keep)
   have HTS : Hid (∀ x ∈ l.take k, sndR 48 x = true) := fun x hx => snd_le (by omega) (HS47.out x (List.mem_of_mem_take hx))
   have HSQ := Lib.hid (HSD.out _ (List.getElem_mem hlt))
   have HTK := Lib.hid (List.take_succ_eq_append_getElem hlt)
   clear hca hga
   generalize l[k] = q at *
   have HCL := Lib.hid (IH.out Z q (gs k) _ b wr (fun x hx => Nat.lt_of_lt_of_le (HZ.out x hx) HX.out.keep.size) HKQ.out HSQ.out HX.out.memo HX.out.rb HX.out.nz HX.out.blk)
   simp only [HLS.out, svB, ptrS] at HCL
   go_wp2_with fail
   refine HCL.out.mono ?_
   rintro e w6 hret
   rw [← HLS.out] at hret
   obtain ⟨b2, rfl, -, h6⟩ := HX.out.call hret
   have HX6 := Lib.hid (h6.congr (fun j hj => (img_cat HTS.out j)))
   rw [← HTK.out] at HX6
   simp only [HLS.out, svB]
   clear hret h6 HCL HX HKQ HSQ t0 t1 t2 t3 t4 t6 t7 hcp
   go_wp2_with fail
   exact ⟨⟨k + 1, b2, by omega, by simp, rfl, HX6.out⟩, by simp [intOf]; omega⟩
theorem ends_m4 (s : List UInt8) (sb : ByteArray) (hL : L sb = s) (hsz : s.length ≤ 1000000) (Rb : Nat → Option RX) (d : Nat) (hd : d + 1 ≤ 48) (IH0 : EndM s sb Rb d) (Z : Nat → Prop) (lo hh mn mx : Int) (l : List RX) (g : Nat) (F : Nat → Prop) (a : Nat) (w : World) (hZ : ∀ x, Z x → x < w.heap.size) (hsp : SpR (s.length + 1) Rb w g (.mk 4 lo hh mn mx l)) (hsn : sndR (d + 1) (.mk 4 lo hh mn mx l) = true) (hmz : MemoZ s Rb Z w) (hna : Rb a = none) (hnz : ¬ Z a) (hbl : BlkB w a (s.length + 1) F) :
  Calls Tryz.prog 60 #[ptrS g, .string sb, svB a (s.length + 1)] w (RetM s Rb Z (img s.length F (memR s 48 (.mk 4 lo hh mn mx l))) w) := by
 have hls : s.length = sb.size := by rw [← hL]; exact L_len sb
 have hkd := (snd_node hsn).2
 have HFW := Lib.hid (form_ways (snd_node hsn).1)
 have HSP := Lib.hid hsp
 have HSNX := Lib.hid hsn
 obtain ⟨ca, av, rv, gs, hbx, hng, hsl, hnav, hkids, -⟩ := hsp.open
 obtain ⟨aa, acap, rfl, al1, al2, al3, al4⟩ := hsl
 have hml : (l.length : Int) ≤ 9223372036854775807 := by simp only [maxLen] at al2; omega
 have HZ := Lib.hid hZ
 have HBX := Lib.hid (And.intro hbx hng)
 have HAA := Lib.hid al4
 have HNA := Lib.hid hnav
 have HKD := Lib.hid hkids
 have HSD := Lib.hid hkd
 have HS47 : Hid (∀ q ∈ l, sndR 47 q = true) := fun q hq => snd_le (by omega) (hkd q hq)
 have HLS := Lib.hid hls
 have HL := Lib.hid hL
 have IH := Lib.hid IH0
 have HF := Lib.hid (show EnS s Rb Z w w a F from ⟨hna, hnz, hbl, hmz, KeepM.refl _ _⟩)
 have hmk := run_make_row' (P := Tryz.prog) 84 4 (.bool false) 1 Tryz.underlying84 bool_infoZ rfl .i64 .i64 (sb.size + 1) (by omega) (by omega)
 rw [show ((sb.size + 1 : Nat) : Int) = (sb.size : Int) + 1 by omega] at hmk
 have hsbi : (sb.size : Int) ≤ 1000000 := by omega
 obtain ⟨t0, t1, t2, t3, t4, t6, t7⟩ := hbx.cells
 simp only at t0 t1 t2 t3 t4 t6 t7
 clear hZ hsp hsn hmz hna hnz hbl hbx hng al1 al2 al3 al4 hnav hkids hkd IH0 hls hL hsz
 simp only [ptrS, svB, HLS.out]
 go_enter Tryz.func60, Tryz.ntmps60
 go_upto_region 2 with fail
 generalize hW : World.alloc w _ = w1
 have hb1 : Below w.heap.size w w1 := hW ▸ (Below.refl _ _).alloc (Nat.le_refl _) _
 have HO1 := Lib.hid (show EnS s Rb Z w w1 w.heap.size (fun _ => False) from (HF.out).join HZ.out (Nat.le_refl _) (by rw [HLS.out]; exact hW ▸ blk_made w (sb.size + 1)) hb1)
 have HF1 := Lib.hid (HF.out.stay hb1)
 clear hW hb1 hmk t0 t1 t2 t3 t4 t6 t7
 obtain ⟨t0, t1, t2, t3, t4, t6, t7⟩ := (HBX.out.1.keepM HBX.out.2 HO1.out.keep).cells
 simp only at t0 t1 t2 t3 t4 t6 t7
 have HX0 := Lib.hid (HO1.out.congr (H := fun j => ∃ q ∈ l.take 0, img s.length F (memR s 48 q) j) (fun j _ => ⟨fun h => h.elim, fun ⟨q, hq, _⟩ => by simp at hq⟩))
 go_wp2_with fail
 go_loopw [7, 10] (fun ov nv wr => ∃ (k b : Nat), k ≤ l.length ∧ nv = .int .i64 (k : Int) ∧ ov = .slice (some ⟨b, 0, none⟩) (sb.size + 1) (sb.size + 1) ∧ Hid (EnS s Rb Z w wr b (fun j => ∃ q ∈ l.take k, img s.length F (memR s 48 q) j))) (fun _ nv _ => l.length - (intOf nv).toNat)
 case atStart => exact ⟨0, w.heap.size, Nat.zero_le _, rfl, rfl, HX0.out⟩
 case round =>
  clear HX0 HO1 HF1 t0 t1 t2 t3 t4 t6 t7
  obtain ⟨k, b, hk, rfl, rfl, HX⟩ := hrel
  obtain ⟨t0, t1, t2, t3, t4, t6, t7⟩ := (HBX.out.1.keepM HBX.out.2 HX.out.keep).cells
  simp only at t0 t1 t2 t3 t4 t6 t7
  by_cases hlt : k < l.length
  case neg =>
   have hge : ¬ (k : Int) < l.length := by omega
   have HR := Lib.hid (HX.out.congr (H := img s.length F (memR s 48 (.mk 4 lo hh mn mx l))) (fun j hj => by
    rw [List.take_of_length_le (by omega)]
    exact ⟨fun ⟨q, hq, i, h1, h2, h3⟩ => ⟨i, h1, h2, (mm4 s lo hh mn mx l HS47.out i j).2 ⟨q, hq, h3⟩⟩, fun ⟨i, h1, h2, h3⟩ => by obtain ⟨q, hq, hm⟩ := (mm4 s lo hh mn mx l HS47.out i j).1 h3; exact ⟨q, hq, i, h1, h2, hm⟩⟩))
   clear hlt
   go_wp2_with fail
   go_ret
   have h := HR.out.ret
   rw [HLS.out] at h
   exact h
  case pos =>
   have hlti : (k : Int) < l.length := by omega
   obtain ⟨ga, oa, rfl, hga, hca⟩ := HAA.out (by omega)
   have hcp : wr.cell? ⟨ga, oa + k, none⟩ = some (.pointer (some ⟨gs k, 0, none⟩)) := by
    have h := hca k hlt 0 (by omega)
    rw [Nat.mul_one, Nat.add_zero] at h
    rw [HX.out.keep.cell hga (HNA.out ga oa _ _ rfl (by omega)), h]
    rfl
   have HKQ := Lib.hid ((HKD.out k hlt).keepM HX.out.keep)
   have HSQ := Lib.hid (HSD.out _ (List.getElem_mem hlt))
   have HTK := Lib.hid (List.take_succ_eq_append_getElem hlt)
   clear hca hga
   generalize l[k] = q at *
   have HCL := Lib.hid (IH.out Z q (gs k) F a wr (fun x hx => Nat.lt_of_lt_of_le (HZ.out x hx) HX.out.keep.size) HKQ.out HSQ.out HX.out.memo HF.out.rb HF.out.nz (HF.out.blk.keepM HF.out.rb HX.out.keep))
   simp only [HLS.out, svB, ptrS] at HCL
   go_wp2_with fail
   refine HCL.out.mono ?_
   rintro e w6 hret
   rw [← HLS.out] at hret
   obtain ⟨b2, rfl, h5, h6⟩ := HX.out.call hret
   have H5 := Lib.hid h5
   have H6 := Lib.hid h6
   have HEI := Lib.hid (either_any (s.length + 1) b b2 _ _ w6 (by have := HLS.out; omega) h5.blk h6.blk)
   simp only [HLS.out, svB] at HEI
   simp only [HLS.out, svB]
   clear hret h5 h6 HCL HX HKQ HSQ t0 t1 t2 t3 t4 t6 t7 hcp
   go_wp2_with fail
   refine HEI.out.mono ?_
   rintro e w7 ⟨b3, rfl, hb3, hbk, hbe⟩
   rw [← HLS.out] at hbk
   have HX7 := Lib.hid ((H5.out.join HZ.out hb3 hbk hbe).congr (H := fun j => ∃ x ∈ l.take (k + 1), img s.length F (memR s 48 x) j) (fun j _ => by
    rw [HTK.out]
    constructor
    ·rintro (⟨x, hx, h⟩ | h)
     ·exact ⟨x, List.mem_append_left _ hx, h⟩
     ·exact ⟨q, List.mem_append_right _ (List.mem_singleton.2 rfl), h⟩
    ·rintro ⟨x, hx, h⟩
     rcases List.mem_append.1 hx with hx | hx
     ·exact .inl ⟨x, hx, h⟩
     ·rw [List.mem_singleton.1 hx] at h
      exact .inr h))
   clear hb3 hbk hbe HEI H5 H6
   go_wp2_with fail
   exact ⟨⟨k + 1, b3, by omega, by simp, rfl, HX7.out⟩, by simp [intOf]; omega⟩
theorem ends_m6 (s : List UInt8) (sb : ByteArray) (hL : L sb = s) (hsz : s.length ≤ 1000000) (Rb : Nat → Option RX) (d : Nat) (hd : d + 1 ≤ 48) (RW0 : RowM s sb Rb (d + 1)) (Z : Nat → Prop) (lo hh mn mx : Int) (l : List RX) (g : Nat) (F : Nat → Prop) (a : Nat) (w : World) (hZ : ∀ x, Z x → x < w.heap.size) (hsp : SpR (s.length + 1) Rb w g (.mk 6 lo hh mn mx l)) (hsn : sndR (d + 1) (.mk 6 lo hh mn mx l) = true) (hmz : MemoZ s Rb Z w) (hna : Rb a = none) (hnz : ¬ Z a) (hbl : BlkB w a (s.length + 1) F) :
  Calls Tryz.prog 60 #[ptrS g, .string sb, svB a (s.length + 1)] w (RetM s Rb Z (img s.length F (memR s 48 (.mk 6 lo hh mn mx l))) w) := by
 have hls : s.length = sb.size := by rw [← hL]; exact L_len sb
 have hkd := (snd_node hsn).2
 have HFW := Lib.hid (form_ways (snd_node hsn).1)
 have HSP := Lib.hid hsp
 have HSNX := Lib.hid hsn
 obtain ⟨ca, av, rv, gs, hbx, hng, hsl, hnav, hkids, -⟩ := hsp.open
 obtain ⟨aa, acap, rfl, al1, al2, al3, al4⟩ := hsl
 have hml : (l.length : Int) ≤ 9223372036854775807 := by simp only [maxLen] at al2; omega
 have HZ := Lib.hid hZ
 have HBX := Lib.hid (And.intro hbx hng)
 have HAA := Lib.hid al4
 have HNA := Lib.hid hnav
 have HKD := Lib.hid hkids
 have HSD := Lib.hid hkd
 have HS47 : Hid (∀ q ∈ l, sndR 47 q = true) := fun q hq => snd_le (by omega) (hkd q hq)
 have HLS := Lib.hid hls
 have HL := Lib.hid hL

 have HF := Lib.hid (show EnS s Rb Z w w a F from ⟨hna, hnz, hbl, hmz, KeepM.refl _ _⟩)
 have hmk := run_make_row' (P := Tryz.prog) 84 4 (.bool false) 1 Tryz.underlying84 bool_infoZ rfl .i64 .i64 (sb.size + 1) (by omega) (by omega)
 rw [show ((sb.size + 1 : Nat) : Int) = (sb.size : Int) + 1 by omega] at hmk
 have hsbi : (sb.size : Int) ≤ 1000000 := by omega
 obtain ⟨t0, t1, t2, t3, t4, t6, t7⟩ := hbx.cells
 simp only at t0 t1 t2 t3 t4 t6 t7
 clear hZ hsp hsn hmz hna hnz hbl hbx hng al1 al2 al3 al4 hnav hkids hkd  hls hL hsz
 simp only [ptrS, svB, HLS.out]
 go_enter Tryz.func60, Tryz.ntmps60
 go_upto_region 2 with fail
 generalize hW : World.alloc w _ = w1
 have hb1 : Below w.heap.size w w1 := hW ▸ (Below.refl _ _).alloc (Nat.le_refl _) _
 have HO1 := Lib.hid (show EnS s Rb Z w w1 w.heap.size (fun _ => False) from (HF.out).join HZ.out (Nat.le_refl _) (by rw [HLS.out]; exact hW ▸ blk_made w (sb.size + 1)) hb1)
 have HF1 := Lib.hid (HF.out.stay hb1)
 clear hW hb1 hmk t0 t1 t2 t3 t4 t6 t7
 obtain ⟨t0, t1, t2, t3, t4, t6, t7⟩ := (HBX.out.1.keepM HBX.out.2 HO1.out.keep).cells
 simp only at t0 t1 t2 t3 t4 t6 t7
 have HRW := Lib.hid (fun Z i w' hz hs hm hi => RW0 Z (.mk 6 lo hh mn mx l) g i w' hz hs HSNX.out (.inl rfl) hm hi)
 have HX0 := Lib.hid (HO1.out.congr (H := fun j => ∃ i, i < 0 ∧ F i ∧ memR s 48 (.mk 6 lo hh mn mx l) i j) (fun j _ => ⟨fun h => h.elim, fun ⟨i, hi, _⟩ => absurd hi (Nat.not_lt_zero _)⟩))
 clear RW0
 go_wp2_with fail
 go_loopw [7, 11] (fun ov nv wr => ∃ (k b : Nat), k ≤ sb.size + 1 ∧ nv = .int .i64 (k : Int) ∧ ov = .slice (some ⟨b, 0, none⟩) (sb.size + 1) (sb.size + 1) ∧ Hid (EnS s Rb Z w wr b (fun j => ∃ i, i < k ∧ F i ∧ memR s 48 (.mk 6 lo hh mn mx l) i j))) (fun _ nv _ => sb.size + 1 - (intOf nv).toNat)
 case atStart => exact ⟨0, w.heap.size, Nat.zero_le _, rfl, rfl, HX0.out⟩
 case round =>
  clear HX0 HO1 HF1 t0 t1 t2 t3 t4 t6 t7
  obtain ⟨k, b, hk, rfl, rfl, HX⟩ := hrel
  by_cases hlt : k ≤ sb.size
  case neg =>
   have hge : ¬ (k : Int) ≤ sb.size := by omega
   have HR := Lib.hid (HX.out.congr (H := img s.length F (memR s 48 (.mk 6 lo hh mn mx l))) (fun j hj => ⟨fun ⟨i, h1, h2, h3⟩ => ⟨i, by have := HLS.out; omega, h2, h3⟩, fun ⟨i, h1, h2, h3⟩ => ⟨i, by have := HLS.out; omega, h2, h3⟩⟩))
   clear hlt
   go_wp2_with fail
   go_ret
   have h := HR.out.ret
   rw [HLS.out] at h
   exact h
  case pos =>
   have hlti : (k : Int) ≤ sb.size := by omega
   have hlti2 : (k : Int) < (sb.size : Int) + 1 := by omega
   have hkm : k < s.length + 1 := by have := HLS.out; omega
   have hca := (HF.out.blk.keepM HF.out.rb HX.out.keep).cell hkm
   by_cases hF : F k
   ·rw [bvB_true hF] at hca
    have HFK := Lib.hid hF
    have HCL := Lib.hid (HRW.out Z k wr (fun x hx => Nat.lt_of_lt_of_le (HZ.out x hx) HX.out.keep.size) (HSP.out.keepM HX.out.keep) HX.out.memo hkm)
    simp only [ptrS] at HCL
    clear hF hlt hkm
    go_wp2_with fail
    refine HCL.out.mono ?_
    rintro e w6 hret
    obtain ⟨b2, rfl, h5, h6⟩ := HX.out.call hret
    have H5 := Lib.hid h5
    have HEI := Lib.hid (either_any (s.length + 1) b b2 _ _ w6 (by have := HLS.out; omega) h5.blk h6.blk)
    simp only [HLS.out, svB] at HEI
    simp only [HLS.out, svB]
    clear hret h5 h6 HCL HX hca
    go_wp2_with fail
    refine HEI.out.mono ?_
    rintro e w7 ⟨b3, rfl, hb3, hbk, hbe⟩
    rw [← HLS.out] at hbk
    have HX7 := Lib.hid ((H5.out.join HZ.out hb3 hbk hbe).congr (H := fun j => ∃ i, i < k + 1 ∧ F i ∧ memR s 48 (.mk 6 lo hh mn mx l) i j) (fun j _ => by
     constructor
     ·rintro (⟨i, h1, h2⟩ | h)
      ·exact ⟨i, by omega, h2⟩
      ·exact ⟨k, by omega, HFK.out, h⟩
     ·rintro ⟨i, h1, h2, h3⟩
      by_cases hik : i = k
      ·subst hik
       exact .inr h3
      ·exact .inl ⟨i, by omega, h2, h3⟩))
    clear hb3 hbk hbe HEI H5
    go_wp2_with fail
    exact ⟨⟨k + 1, b3, by omega, by simp, rfl, HX7.out⟩, by simp [intOf]; omega⟩
   ·rw [bvB_false hF] at hca
    have HX7 := Lib.hid (HX.out.congr (H := fun j => ∃ i, i < k + 1 ∧ F i ∧ memR s 48 (.mk 6 lo hh mn mx l) i j) (fun j _ => ⟨fun ⟨i, h1, h2⟩ => ⟨i, by omega, h2⟩, fun ⟨i, h1, h2, h3⟩ => ⟨i, by
     by_cases hik : i = k
     ·subst hik
      exact absurd h2 hF
     ·omega, h2, h3⟩⟩))
    clear hF hlt hkm
    go_wp2_with fail
    exact ⟨⟨k + 1, b, by omega, by simp, rfl, HX7.out⟩, by simp [intOf]; omega⟩
theorem ends_m7 (s : List UInt8) (sb : ByteArray) (hL : L sb = s) (hsz : s.length ≤ 1000000) (Rb : Nat → Option RX) (d : Nat) (hd : d + 1 ≤ 48) (RW0 : RowM s sb Rb (d + 1)) (Z : Nat → Prop) (lo hh mn mx : Int) (l : List RX) (g : Nat) (F : Nat → Prop) (a : Nat) (w : World) (hZ : ∀ x, Z x → x < w.heap.size) (hsp : SpR (s.length + 1) Rb w g (.mk 7 lo hh mn mx l)) (hsn : sndR (d + 1) (.mk 7 lo hh mn mx l) = true) (hmz : MemoZ s Rb Z w) (hna : Rb a = none) (hnz : ¬ Z a) (hbl : BlkB w a (s.length + 1) F) :
  Calls Tryz.prog 60 #[ptrS g, .string sb, svB a (s.length + 1)] w (RetM s Rb Z (img s.length F (memR s 48 (.mk 7 lo hh mn mx l))) w) := by
 have hls : s.length = sb.size := by rw [← hL]; exact L_len sb
 have hkd := (snd_node hsn).2
 have HFW := Lib.hid (form_ways (snd_node hsn).1)
 have HSP := Lib.hid hsp
 have HSNX := Lib.hid hsn
 obtain ⟨ca, av, rv, gs, hbx, hng, hsl, hnav, hkids, -⟩ := hsp.open
 obtain ⟨aa, acap, rfl, al1, al2, al3, al4⟩ := hsl
 have hml : (l.length : Int) ≤ 9223372036854775807 := by simp only [maxLen] at al2; omega
 have HZ := Lib.hid hZ
 have HBX := Lib.hid (And.intro hbx hng)
 have HAA := Lib.hid al4
 have HNA := Lib.hid hnav
 have HKD := Lib.hid hkids
 have HSD := Lib.hid hkd
 have HS47 : Hid (∀ q ∈ l, sndR 47 q = true) := fun q hq => snd_le (by omega) (hkd q hq)
 have HLS := Lib.hid hls
 have HL := Lib.hid hL

 have HF := Lib.hid (show EnS s Rb Z w w a F from ⟨hna, hnz, hbl, hmz, KeepM.refl _ _⟩)
 have hmk := run_make_row' (P := Tryz.prog) 84 4 (.bool false) 1 Tryz.underlying84 bool_infoZ rfl .i64 .i64 (sb.size + 1) (by omega) (by omega)
 rw [show ((sb.size + 1 : Nat) : Int) = (sb.size : Int) + 1 by omega] at hmk
 have hsbi : (sb.size : Int) ≤ 1000000 := by omega
 obtain ⟨t0, t1, t2, t3, t4, t6, t7⟩ := hbx.cells
 simp only at t0 t1 t2 t3 t4 t6 t7
 clear hZ hsp hsn hmz hna hnz hbl hbx hng al1 al2 al3 al4 hnav hkids hkd  hls hL hsz
 simp only [ptrS, svB, HLS.out]
 go_enter Tryz.func60, Tryz.ntmps60
 go_upto_region 2 with fail
 generalize hW : World.alloc w _ = w1
 have hb1 : Below w.heap.size w w1 := hW ▸ (Below.refl _ _).alloc (Nat.le_refl _) _
 have HO1 := Lib.hid (show EnS s Rb Z w w1 w.heap.size (fun _ => False) from (HF.out).join HZ.out (Nat.le_refl _) (by rw [HLS.out]; exact hW ▸ blk_made w (sb.size + 1)) hb1)
 have HF1 := Lib.hid (HF.out.stay hb1)
 clear hW hb1 hmk t0 t1 t2 t3 t4 t6 t7
 obtain ⟨t0, t1, t2, t3, t4, t6, t7⟩ := (HBX.out.1.keepM HBX.out.2 HO1.out.keep).cells
 simp only at t0 t1 t2 t3 t4 t6 t7
 have HRW := Lib.hid (fun Z i w' hz hs hm hi => RW0 Z (.mk 7 lo hh mn mx l) g i w' hz hs HSNX.out (.inr rfl) hm hi)
 have HX0 := Lib.hid (HO1.out.congr (H := fun j => ∃ i, i < 0 ∧ F i ∧ memR s 48 (.mk 7 lo hh mn mx l) i j) (fun j _ => ⟨fun h => h.elim, fun ⟨i, hi, _⟩ => absurd hi (Nat.not_lt_zero _)⟩))
 clear RW0
 go_wp2_with fail
 go_loopw [7, 11] (fun ov nv wr => ∃ (k b : Nat), k ≤ sb.size + 1 ∧ nv = .int .i64 (k : Int) ∧ ov = .slice (some ⟨b, 0, none⟩) (sb.size + 1) (sb.size + 1) ∧ Hid (EnS s Rb Z w wr b (fun j => ∃ i, i < k ∧ F i ∧ memR s 48 (.mk 7 lo hh mn mx l) i j))) (fun _ nv _ => sb.size + 1 - (intOf nv).toNat)
 case atStart => exact ⟨0, w.heap.size, Nat.zero_le _, rfl, rfl, HX0.out⟩
 case round =>
  clear HX0 HO1 HF1 t0 t1 t2 t3 t4 t6 t7
  obtain ⟨k, b, hk, rfl, rfl, HX⟩ := hrel
  by_cases hlt : k ≤ sb.size
  case neg =>
   have hge : ¬ (k : Int) ≤ sb.size := by omega
   have HR := Lib.hid (HX.out.congr (H := img s.length F (memR s 48 (.mk 7 lo hh mn mx l))) (fun j hj => ⟨fun ⟨i, h1, h2, h3⟩ => ⟨i, by have := HLS.out; omega, h2, h3⟩, fun ⟨i, h1, h2, h3⟩ => ⟨i, by have := HLS.out; omega, h2, h3⟩⟩))
   clear hlt
   go_wp2_with fail
   go_ret
   have h := HR.out.ret
   rw [HLS.out] at h
   exact h
  case pos =>
   have hlti : (k : Int) ≤ sb.size := by omega
   have hlti2 : (k : Int) < (sb.size : Int) + 1 := by omega
   have hkm : k < s.length + 1 := by have := HLS.out; omega
   have hca := (HF.out.blk.keepM HF.out.rb HX.out.keep).cell hkm
   by_cases hF : F k
   ·rw [bvB_true hF] at hca
    have HFK := Lib.hid hF
    have HCL := Lib.hid (HRW.out Z k wr (fun x hx => Nat.lt_of_lt_of_le (HZ.out x hx) HX.out.keep.size) (HSP.out.keepM HX.out.keep) HX.out.memo hkm)
    simp only [ptrS] at HCL
    clear hF hlt hkm
    go_wp2_with fail
    refine HCL.out.mono ?_
    rintro e w6 hret
    obtain ⟨b2, rfl, h5, h6⟩ := HX.out.call hret
    have H5 := Lib.hid h5
    have HEI := Lib.hid (either_any (s.length + 1) b b2 _ _ w6 (by have := HLS.out; omega) h5.blk h6.blk)
    simp only [HLS.out, svB] at HEI
    simp only [HLS.out, svB]
    clear hret h5 h6 HCL HX hca
    go_wp2_with fail
    refine HEI.out.mono ?_
    rintro e w7 ⟨b3, rfl, hb3, hbk, hbe⟩
    rw [← HLS.out] at hbk
    have HX7 := Lib.hid ((H5.out.join HZ.out hb3 hbk hbe).congr (H := fun j => ∃ i, i < k + 1 ∧ F i ∧ memR s 48 (.mk 7 lo hh mn mx l) i j) (fun j _ => by
     constructor
     ·rintro (⟨i, h1, h2⟩ | h)
      ·exact ⟨i, by omega, h2⟩
      ·exact ⟨k, by omega, HFK.out, h⟩
     ·rintro ⟨i, h1, h2, h3⟩
      by_cases hik : i = k
      ·subst hik
       exact .inr h3
      ·exact .inl ⟨i, by omega, h2, h3⟩))
    clear hb3 hbk hbe HEI H5
    go_wp2_with fail
    exact ⟨⟨k + 1, b3, by omega, by simp, rfl, HX7.out⟩, by simp [intOf]; omega⟩
   ·rw [bvB_false hF] at hca
    have HX7 := Lib.hid (HX.out.congr (H := fun j => ∃ i, i < k + 1 ∧ F i ∧ memR s 48 (.mk 7 lo hh mn mx l) i j) (fun j _ => ⟨fun ⟨i, h1, h2⟩ => ⟨i, by omega, h2⟩, fun ⟨i, h1, h2, h3⟩ => ⟨i, by
     by_cases hik : i = k
     ·subst hik
      exact absurd h2 hF
     ·omega, h2, h3⟩⟩))
    clear hF hlt hkm
    go_wp2_with fail
    exact ⟨⟨k + 1, b, by omega, by simp, rfl, HX7.out⟩, by simp [intOf]; omega⟩
end Go.Proofs.YtpkecepelcppiaaGreatDoor
