/- formats.text, Pattern, Check, datakitref17.Source, Known, Pattern, Check walked; printed by gen_fo.py. Conditions: the value of strconv.ErrSyntax. -/
import Derived.Test.YtpkecepelcppiaaGreatDoorZa38
import Derived.Test.YtpkecepelcppiaaGreatDoorZa15
import Derived.Test.YtpkecepelcppiaaGreatDoorZa2
import Derived.Test.YtpkecepelcppiaaGreatDoorZa23
import Derived.Test.YtpkecepelcppiaaGreatDoorZa37
namespace Go.Proofs.YtpkecepelcppiaaGreatDoor
open Go.RowKit Go.Shelf
set_option maxHeartbeats 4000000
set_option maxRecDepth 100000

theorem ends_m2 (s : List UInt8) (sb : ByteArray) (hL : L sb = s) (hsz : s.length ≤ 1000000) (Rb : Nat → Option RX) (d : Nat) (hd : d + 1 ≤ 48) (Z : Nat → Prop) (lo hh mn mx : Int) (l : List RX) (g : Nat) (F : Nat → Prop) (a : Nat) (w : World) (hZ : ∀ x, Z x → x < w.heap.size) (hsp : SpR (s.length + 1) Rb w g (.mk 2 lo hh mn mx l)) (hsn : sndR (d + 1) (.mk 2 lo hh mn mx l) = true) (hmz : MemoZ s Rb Z w) (hna : Rb a = none) (hnz : ¬ Z a) (hbl : BlkB w a (s.length + 1) F) :
  Calls Tryz.prog 60 #[ptrS g, .string sb, svB a (s.length + 1)] w (RetM s Rb Z (img s.length F (memR s 48 (.mk 2 lo hh mn mx l))) w) := by
 have hls : s.length = sb.size := by rw [← hL]; exact L_len sb
 have hkd := (snd_node hsn).2
 have HFW := Lib.hid (form_ways (snd_node hsn).1)
 have HSP := Lib.hid hsp
 obtain ⟨ca, av, rv, gs, hbx, hng, hsl, hnav, hkids, -⟩ := hsp.open
 obtain ⟨aa, acap, rfl, al1, al2, al3, al4⟩ := hsl
 have hml : (l.length : Int) ≤ 9223372036854775807 := by simp only [maxLen] at al2; omega
 have HZ := Lib.hid hZ
 have HBX := Lib.hid (And.intro hbx hng)
 have HAA := Lib.hid al4
 have HNA := Lib.hid hnav
 have HKD := Lib.hid hkids
 have HSD := Lib.hid hkd
 have HS47 : Hid (∀ q ∈ l, sndR 47 q = true) := fun q hq => snd_le (by omega) (hkd q hq)
 have HLS := Lib.hid hls
 have HL := Lib.hid hL

 have HF := Lib.hid (show EnS s Rb Z w w a F from ⟨hna, hnz, hbl, hmz, KeepM.refl _ _⟩)
 have hmk := run_make_row' (P := Tryz.prog) 84 4 (.bool false) 1 Tryz.underlying84 bool_infoZ rfl .i64 .i64 (sb.size + 1) (by omega) (by omega)
 rw [show ((sb.size + 1 : Nat) : Int) = (sb.size : Int) + 1 by omega] at hmk
 have hsbi : (sb.size : Int) ≤ 1000000 := by omega
 obtain ⟨t0, t1, t2, t3, t4, t6, t7⟩ := hbx.cells
 simp only at t0 t1 t2 t3 t4 t6 t7
 clear hZ hsp hsn hmz hna hnz hbl hbx hng al1 al2 al3 al4 hnav hkids hkd  hls hL hsz
 simp only [ptrS, svB, HLS.out]
 go_enter Tryz.func60, Tryz.ntmps60
 go_upto_region 2 with fail
 generalize hW : World.alloc w _ = w1
 have hb1 : Below w.heap.size w w1 := hW ▸ (Below.refl _ _).alloc (Nat.le_refl _) _
 have HO1 := Lib.hid (show EnS s Rb Z w w1 w.heap.size (fun _ => False) from (HF.out).join HZ.out (Nat.le_refl _) (by rw [HLS.out]; exact hW ▸ blk_made w (sb.size + 1)) hb1)
 have HF1 := Lib.hid (HF.out.stay hb1)
 have HBL := hb1.block
 clear hW hb1 hmk t0 t1 t2 t3 t4 t6 t7
 obtain ⟨t0, t1, t2, t3, t4, t6, t7⟩ := (HBX.out.1.keepM HBX.out.2 HO1.out.keep).cells
 simp only at t0 t1 t2 t3 t4 t6 t7
 have HX0 : Hid (BlkB w1 w.heap.size (sb.size + 1) (fun j => j ≤ 0 ∧ ∃ i, j = i + 1 ∧ F i ∧ rng1 s lo hh i = true)) := by
  have h := HO1.out.blk
  rw [HLS.out] at h
  exact h.congr (fun j _ => ⟨fun h => h.elim, fun ⟨h1, i, h2, _⟩ => by omega⟩)
 have HB1 : Hid (Below w.heap.size w w1) := ⟨HO1.out.keep.os, HO1.out.keep.tape, HO1.out.keep.output, HO1.out.keep.size, HBL⟩
 go_wp2_with fail
 go_loopw [8] (fun kv wr => ∃ k : Nat, k ≤ sb.size ∧ kv = .int .i64 (k : Int) ∧ Hid (BlkB wr w.heap.size (sb.size + 1) (fun j => j ≤ k ∧ ∃ i, j = i + 1 ∧ F i ∧ rng1 s lo hh i = true)) ∧ Hid (Below w.heap.size w wr)) (fun kv _ => sb.size - (intOf kv).toNat)
 case atStart => exact ⟨0, Nat.zero_le _, rfl, HX0.out, HB1.out⟩
 case round =>
  clear HX0 HO1 HF1 t0 t1 t2 t3 t4 t6 t7 HB1
  obtain ⟨k, hk, rfl, HX, HB⟩ := hrel
  by_cases hlt : k < sb.size
  case neg =>
   have hge : ¬ (k : Int) < sb.size := by omega
   have hbk : BlkB wr w.heap.size (s.length + 1) (img s.length F (memR s 48 (.mk 2 lo hh mn mx l))) := by
    have h := HX.out
    rw [← HLS.out] at h
    refine h.congr (fun j hj => ⟨fun ⟨h1, i, h2, h3, h4⟩ => ⟨i, by omega, h3, (mm2 s lo hh mn mx l i j).2 ⟨h2, h4⟩⟩, fun ⟨i, h1, h2, h3⟩ => ?_⟩)
    obtain ⟨h4, h5⟩ := (mm2 s lo hh mn mx l i j).1 h3
    exact ⟨by have := HLS.out; omega, i, h4, h2, h5⟩
   have HR := Lib.hid (HF.out.join HZ.out (Nat.le_refl _) hbk HB.out)
   clear hlt hbk
   go_wp2_with fail
   go_ret
   have h := HR.out.ret
   rw [HLS.out] at h
   exact h
  case pos =>
   have hlti : (k : Int) < sb.size := by omega
   have hkm : k < s.length + 1 := by have := HLS.out; omega
   have hk1 : (k : Int) + 1 < (sb.size : Int) + 1 := by omega
   have hk2 : (k : Int) < (sb.size : Int) + 1 := by omega
   have hk0 : (0 : Int) ≤ (k : Int) + 1 := by omega
   have hwk : IntKind.i64.wrap ((k : Int) + 1) = (k : Int) + 1 := IntWalk.i64_in _ (by omega)
   have hca := (HF.out.blk.stay HB.out).cell hkm
   have hc1 := (HBX.out.1.below HB.out).cells.2.1
   have hc2 := (HBX.out.1.below HB.out).cells.2.2.1
   simp only at hc1 hc2
   obtain ⟨x0, hcx⟩ : ∃ x, wr.cell? ⟨w.heap.size, k + 1, none⟩ = some x := ⟨_, HX.out.cell (by omega)⟩
   have hfz := HX.out.frozen (k + 1)
   have hb8 : sb[k].toNat < 256 := sb[k].toNat_lt
   have hwr : IntKind.i64.wrap (sb[k].toNat : Int) = (sb[k].toNat : Int) := IntWalk.i64_in _ (by omega)
   have HRG : Hid (rng1 s lo hh k = true ↔ lo ≤ (sb[k].toNat : Int) ∧ (sb[k].toNat : Int) ≤ hh) := by
    have h1 : s[k]? = some sb[k] := by
     rw [← HL.out, List.getElem?_eq_getElem (by rw [L_len]; exact hlt), L_get sb k hlt]
    unfold Hid rng1
    rw [h1]
    exact decide_eq_true_iff
   have HPUT := Lib.hid (fun (b : Bool) (hb : b = true ↔ (F k ∧ rng1 s lo hh k = true)) => show BlkB (wr.drew.setCell ⟨w.heap.size, k + 1, none⟩ (.bool b)) w.heap.size (sb.size + 1) (fun j => j ≤ k + 1 ∧ ∃ i, j = i + 1 ∧ F i ∧ rng1 s lo hh i = true) ∧ Below w.heap.size w (wr.drew.setCell ⟨w.heap.size, k + 1, none⟩ (.bool b)) from by
    refine ⟨(HX.out.stay (drewBn wr)).put (k + 1) b _ (fun j _ hne => ⟨fun h => ⟨by omega, h.2⟩, fun h => ⟨by omega, h.2⟩⟩) ?_, (HB.out.trans ((drewBn wr).mono HB.out.size)).setCell (p := ⟨w.heap.size, k + 1, none⟩) (Nat.le_refl _) _⟩
    rw [hb]
    exact ⟨fun h => ⟨Nat.le_refl _, k, rfl, h⟩, fun ⟨_, i, h1, h2⟩ => (show k = i by omega) ▸ h2⟩)
   clear hkm
   by_cases hF : F k
   ·rw [bvB_true hF] at hca
    by_cases hlo : lo ≤ (sb[k].toNat : Int)
    ·by_cases hhi : (sb[k].toNat : Int) ≤ hh
     ·have HP2 := Lib.hid (HPUT.out true ⟨fun _ => ⟨hF, HRG.out.2 ⟨hlo, hhi⟩⟩, fun _ => rfl⟩)
      clear hF HPUT HRG
      go_upto_region 9 with fail
      refine wpq_region (fun w' => w'.cell? ⟨a, k, none⟩ = some (.bool true) ∧ w'.cell? ⟨g, 1, none⟩ = some (.int .i64 lo) ∧ w'.cell? ⟨g, 2, none⟩ = some (.int .i64 hh)) 32 (by kernel_rfl) ⟨hca, hc1, hc2⟩ (fun hHeld => ?_)
      have HHD := And.intro hca (And.intro hc1 hc2)
      clear hca hc1 hc2 hHeld
      have hHeld : wr.drew.cell? ⟨a, k, none⟩ = some (.bool true) ∧ wr.drew.cell? ⟨g, 1, none⟩ = some (.int .i64 lo) ∧ wr.drew.cell? ⟨g, 2, none⟩ = some (.int .i64 hh) := HHD
      have hfz2 : wr.drew.frozen? ⟨w.heap.size, k + 1, none⟩ = false := hfz
      have hcx2 : wr.drew.cell? ⟨w.heap.size, k + 1, none⟩ = some x0 := hcx
      clear hfz hcx
      generalize wr.drew = wd at *
      refine wpq_tk 0 (some 37) [32] (Or.inl ⟨by rfl, fun w hSw => by (obtain ⟨y0, y1, y2⟩ := hSw; go_simp; with_reducible rfl)⟩) hHeld ?_ rfl rfl
      simp only [Act.put, sA, sZ, sS]
      refine wpq_tk 1 (some 38) [32] (Or.inl ⟨by rfl, fun w hSw => by (obtain ⟨y0, y1, y2⟩ := hSw; go_simp; with_reducible rfl)⟩) hHeld ?_ rfl rfl
      simp only [Act.put, sA, sZ, sS]
      refine wpq_tk 2 (some 39) [32] (Or.inl ⟨by rfl, fun w hSw => by (obtain ⟨y0, y1, y2⟩ := hSw; go_simp; with_reducible rfl)⟩) hHeld ?_ rfl rfl
      simp only [Act.put, sA, sZ, sS]
      refine wpq_tk 3 (some 40) [32] (Or.inl ⟨by rfl, fun w hSw => by (obtain ⟨y0, y1, y2⟩ := hSw; go_simp; with_reducible rfl)⟩) hHeld ?_ rfl rfl
      simp only [Act.put, sA, sZ, sS]
      refine wpq_tk 4 (some 41) [32] (Or.inl ⟨by rfl, fun w hSw => by (obtain ⟨y0, y1, y2⟩ := hSw; go_simp; with_reducible rfl)⟩) hHeld ?_ rfl rfl
      simp only [Act.put, sA, sZ, sS]
      refine wpq_tk 5 (some 42) [32] (Or.inl ⟨by rfl, fun w hSw => by (obtain ⟨y0, y1, y2⟩ := hSw; go_simp; with_reducible rfl)⟩) hHeld ?_ rfl rfl
      simp only [Act.put, sA, sZ, sS]
      refine wpq_tk 6 (some 43) [32] (Or.inl ⟨by rfl, fun w hSw => by (obtain ⟨y0, y1, y2⟩ := hSw; go_simp; with_reducible rfl)⟩) hHeld ?_ rfl rfl
      simp only [Act.put, sA, sZ, sS]
      refine wpq_tk 7 (some 44) [32] (Or.inl ⟨by rfl, fun w hSw => by (obtain ⟨y0, y1, y2⟩ := hSw; go_simp; with_reducible rfl)⟩) hHeld ?_ rfl rfl
      simp only [Act.put, sA, sZ, sS]
      refine wpq_tk 8 (some 45) [32] (Or.inl ⟨by rfl, fun w hSw => by (obtain ⟨y0, y1, y2⟩ := hSw; go_simp; with_reducible rfl)⟩) hHeld ?_ rfl rfl
      simp only [Act.put, sA, sZ, sS]
      refine wpq_tk 9 (some 46) [32] (Or.inl ⟨by rfl, fun w hSw => by (obtain ⟨y0, y1, y2⟩ := hSw; go_simp; with_reducible rfl)⟩) hHeld ?_ rfl rfl
      simp only [Act.put, sA, sZ, sS]
      refine wpq_tk 10 (some 47) [32] (Or.inl ⟨by rfl, fun w hSw => by (obtain ⟨y0, y1, y2⟩ := hSw; go_simp; with_reducible rfl)⟩) hHeld ?_ rfl rfl
      simp only [Act.put, sA, sZ, sS]
      refine wpq_tk 11 (some 48) [32] (Or.inl ⟨by rfl, fun w hSw => by (obtain ⟨y0, y1, y2⟩ := hSw; go_simp; with_reducible rfl)⟩) hHeld ?_ rfl rfl
      simp only [Act.put, sA, sZ, sS]
      refine wpq_tk 12 (some 49) [32] (Or.inl ⟨by rfl, fun w hSw => by (obtain ⟨y0, y1, y2⟩ := hSw; go_simp; with_reducible rfl)⟩) hHeld ?_ rfl rfl
      simp only [Act.put, sA, sZ, sS]
      refine wpq_tk 13 (some 50) [32] (Or.inl ⟨by rfl, fun w hSw => by (obtain ⟨y0, y1, y2⟩ := hSw; go_simp; with_reducible rfl)⟩) hHeld ?_ rfl rfl
      simp only [Act.put, sA, sZ, sS]
      refine wpq_tk 14 (some 51) [32] (Or.inl ⟨by rfl, fun w hSw => by (obtain ⟨y0, y1, y2⟩ := hSw; go_simp; with_reducible rfl)⟩) hHeld ?_ rfl rfl
      simp only [Act.put, sA, sZ, sS]
      refine wpq_tk 15 (some 52) [32] (Or.inl ⟨by rfl, fun w hSw => by (obtain ⟨y0, y1, y2⟩ := hSw; go_simp; with_reducible rfl)⟩) hHeld ?_ rfl rfl
      simp only [Act.put, sA, sZ, sS]
      refine wpq_tk 16 (some 53) [32] (Or.inl ⟨by rfl, fun w hSw => by (obtain ⟨y0, y1, y2⟩ := hSw; go_simp; with_reducible rfl)⟩) hHeld ?_ rfl rfl
      simp only [Act.put, sA, sZ, sS]
      refine wpq_tk 17 (some 54) [32] (Or.inl ⟨by rfl, fun w hSw => by (obtain ⟨y0, y1, y2⟩ := hSw; go_simp; with_reducible rfl)⟩) hHeld ?_ rfl rfl
      simp only [Act.put, sA, sZ, sS]
      refine wpq_tk 18 (some 55) [32] (Or.inl ⟨by rfl, fun w hSw => by (obtain ⟨y0, y1, y2⟩ := hSw; go_simp; with_reducible rfl)⟩) hHeld ?_ rfl rfl
      simp only [Act.put, sA, sZ, sS]
      refine wpq_tk 19 (some 56) [32] (Or.inl ⟨by rfl, fun w hSw => by (obtain ⟨y0, y1, y2⟩ := hSw; go_simp; with_reducible rfl)⟩) hHeld ?_ rfl rfl
      simp only [Act.put, sA, sZ, sS]
      refine wpq_tk 20 (some 57) [32] (Or.inl ⟨by rfl, fun w hSw => by (obtain ⟨y0, y1, y2⟩ := hSw; go_simp; with_reducible rfl)⟩) hHeld ?_ rfl rfl
      simp only [Act.put, sA, sZ, sS]
      refine wpq_tk 21 (some 58) [32] (Or.inl ⟨by rfl, fun w hSw => by (obtain ⟨y0, y1, y2⟩ := hSw; go_simp; with_reducible rfl)⟩) hHeld ?_ rfl rfl
      simp only [Act.put, sA, sZ, sS]
      refine wpq_tk 22 (some 59) [32] (Or.inl ⟨by rfl, fun w hSw => by (obtain ⟨y0, y1, y2⟩ := hSw; go_simp; with_reducible rfl)⟩) hHeld ?_ rfl rfl
      simp only [Act.put, sA, sZ, sS]
      refine wpq_tk 23 (some 60) [32] (Or.inl ⟨by rfl, fun w hSw => by (obtain ⟨y0, y1, y2⟩ := hSw; go_simp; with_reducible rfl)⟩) hHeld ?_ rfl rfl
      simp only [Act.put, sA, sZ, sS]
      refine wpq_tk 24 (some 61) [32] (Or.inl ⟨by rfl, fun w hSw => by (obtain ⟨y0, y1, y2⟩ := hSw; go_simp; with_reducible rfl)⟩) hHeld ?_ rfl rfl
      simp only [Act.put, sA, sZ, sS]
      refine wpq_tk 25 (some 62) [32] (Or.inl ⟨by rfl, fun w hSw => by (obtain ⟨y0, y1, y2⟩ := hSw; go_simp; with_reducible rfl)⟩) hHeld ?_ rfl rfl
      simp only [Act.put, sA, sZ, sS]
      refine wpq_tk 26 (some 63) [32] (Or.inl ⟨by rfl, fun w hSw => by (obtain ⟨y0, y1, y2⟩ := hSw; go_simp; with_reducible rfl)⟩) hHeld ?_ rfl rfl
      simp only [Act.put, sA, sZ, sS]
      refine wpq_tk 27 (some 64) [32] (Or.inl ⟨by rfl, fun w hSw => by (obtain ⟨y0, y1, y2⟩ := hSw; go_simp; with_reducible rfl)⟩) hHeld ?_ rfl rfl
      simp only [Act.put, sA, sZ, sS]
      refine wpq_tk 28 (some 65) [32] (Or.inl ⟨by rfl, fun w hSw => by (obtain ⟨y0, y1, y2⟩ := hSw; go_simp; with_reducible rfl)⟩) hHeld ?_ rfl rfl
      simp only [Act.put, sA, sZ, sS]
      refine wpq_tk 29 (some 66) [32] (Or.inl ⟨by rfl, fun w hSw => by (obtain ⟨y0, y1, y2⟩ := hSw; go_simp; with_reducible rfl)⟩) hHeld ?_ rfl rfl
      simp only [Act.put, sA, sZ, sS]
      refine wpq_tk 30 (some 67) [32] (Or.inl ⟨by rfl, fun w hSw => by (obtain ⟨y0, y1, y2⟩ := hSw; go_simp; with_reducible rfl)⟩) hHeld ?_ rfl rfl
      simp only [Act.put, sA, sZ, sS]
      refine wpq_tk 31 (some 68) [32] (Or.inl ⟨by rfl, fun w hSw => by (obtain ⟨y0, y1, y2⟩ := hSw; go_simp; with_reducible rfl)⟩) hHeld ?_ rfl rfl
      simp only [Act.put, sA, sZ, sS]
      refine wpq_end 32 (by kernel_rfl) rfl (by kernel_rfl) (fun K hK => ?_)
      obtain ⟨y0, y1, y2⟩ := hHeld
      go_simp
      refine hK.out _ _ ?_
      clear hK K y0 y1 y2
      refine wpq_done (by kernel_rfl) ?_ _
      go_simp
      go_wp2_with fail
      exact ⟨⟨k + 1, by omega, by simp, HP2.out.1, HP2.out.2⟩, by simp [intOf]; omega⟩
     ·have HP2 := Lib.hid (HPUT.out false ⟨fun h => (by cases h), fun h => absurd (HRG.out.1 h.2).2 hhi⟩)
      clear hF HPUT HRG
      go_upto_region 9 with fail
      refine wpq_region (fun w' => w'.cell? ⟨a, k, none⟩ = some (.bool true) ∧ w'.cell? ⟨g, 1, none⟩ = some (.int .i64 lo) ∧ w'.cell? ⟨g, 2, none⟩ = some (.int .i64 hh)) 32 (by kernel_rfl) ⟨hca, hc1, hc2⟩ (fun hHeld => ?_)
      have HHD := And.intro hca (And.intro hc1 hc2)
      clear hca hc1 hc2 hHeld
      have hHeld : wr.drew.cell? ⟨a, k, none⟩ = some (.bool true) ∧ wr.drew.cell? ⟨g, 1, none⟩ = some (.int .i64 lo) ∧ wr.drew.cell? ⟨g, 2, none⟩ = some (.int .i64 hh) := HHD
      have hfz2 : wr.drew.frozen? ⟨w.heap.size, k + 1, none⟩ = false := hfz
      have hcx2 : wr.drew.cell? ⟨w.heap.size, k + 1, none⟩ = some x0 := hcx
      clear hfz hcx
      generalize wr.drew = wd at *
      refine wpq_tk 0 (some 37) [32] (Or.inl ⟨by rfl, fun w hSw => by (obtain ⟨y0, y1, y2⟩ := hSw; go_simp; with_reducible rfl)⟩) hHeld ?_ rfl rfl
      simp only [Act.put, sA, sZ, sS]
      refine wpq_tk 1 (some 38) [32] (Or.inl ⟨by rfl, fun w hSw => by (obtain ⟨y0, y1, y2⟩ := hSw; go_simp; with_reducible rfl)⟩) hHeld ?_ rfl rfl
      simp only [Act.put, sA, sZ, sS]
      refine wpq_tk 2 (some 39) [32] (Or.inl ⟨by rfl, fun w hSw => by (obtain ⟨y0, y1, y2⟩ := hSw; go_simp; with_reducible rfl)⟩) hHeld ?_ rfl rfl
      simp only [Act.put, sA, sZ, sS]
      refine wpq_tk 3 (some 40) [32] (Or.inl ⟨by rfl, fun w hSw => by (obtain ⟨y0, y1, y2⟩ := hSw; go_simp; with_reducible rfl)⟩) hHeld ?_ rfl rfl
      simp only [Act.put, sA, sZ, sS]
      refine wpq_tk 4 (some 41) [32] (Or.inl ⟨by rfl, fun w hSw => by (obtain ⟨y0, y1, y2⟩ := hSw; go_simp; with_reducible rfl)⟩) hHeld ?_ rfl rfl
      simp only [Act.put, sA, sZ, sS]
      refine wpq_tk 5 (some 42) [32] (Or.inl ⟨by rfl, fun w hSw => by (obtain ⟨y0, y1, y2⟩ := hSw; go_simp; with_reducible rfl)⟩) hHeld ?_ rfl rfl
      simp only [Act.put, sA, sZ, sS]
      refine wpq_tk 6 (some 43) [32] (Or.inl ⟨by rfl, fun w hSw => by (obtain ⟨y0, y1, y2⟩ := hSw; go_simp; with_reducible rfl)⟩) hHeld ?_ rfl rfl
      simp only [Act.put, sA, sZ, sS]
      refine wpq_tk 7 (some 44) [32] (Or.inl ⟨by rfl, fun w hSw => by (obtain ⟨y0, y1, y2⟩ := hSw; go_simp; with_reducible rfl)⟩) hHeld ?_ rfl rfl
      simp only [Act.put, sA, sZ, sS]
      refine wpq_tk 8 (some 45) [32] (Or.inl ⟨by rfl, fun w hSw => by (obtain ⟨y0, y1, y2⟩ := hSw; go_simp; with_reducible rfl)⟩) hHeld ?_ rfl rfl
      simp only [Act.put, sA, sZ, sS]
      refine wpq_tk 9 (some 46) [32] (Or.inl ⟨by rfl, fun w hSw => by (obtain ⟨y0, y1, y2⟩ := hSw; go_simp; with_reducible rfl)⟩) hHeld ?_ rfl rfl
      simp only [Act.put, sA, sZ, sS]
      refine wpq_tk 10 (some 47) [32] (Or.inl ⟨by rfl, fun w hSw => by (obtain ⟨y0, y1, y2⟩ := hSw; go_simp; with_reducible rfl)⟩) hHeld ?_ rfl rfl
      simp only [Act.put, sA, sZ, sS]
      refine wpq_tk 11 (some 48) [32] (Or.inl ⟨by rfl, fun w hSw => by (obtain ⟨y0, y1, y2⟩ := hSw; go_simp; with_reducible rfl)⟩) hHeld ?_ rfl rfl
      simp only [Act.put, sA, sZ, sS]
      refine wpq_tk 12 (some 49) [32] (Or.inl ⟨by rfl, fun w hSw => by (obtain ⟨y0, y1, y2⟩ := hSw; go_simp; with_reducible rfl)⟩) hHeld ?_ rfl rfl
      simp only [Act.put, sA, sZ, sS]
      refine wpq_tk 13 (some 50) [32] (Or.inl ⟨by rfl, fun w hSw => by (obtain ⟨y0, y1, y2⟩ := hSw; go_simp; with_reducible rfl)⟩) hHeld ?_ rfl rfl
      simp only [Act.put, sA, sZ, sS]
      refine wpq_tk 14 (some 51) [32] (Or.inl ⟨by rfl, fun w hSw => by (obtain ⟨y0, y1, y2⟩ := hSw; go_simp; with_reducible rfl)⟩) hHeld ?_ rfl rfl
      simp only [Act.put, sA, sZ, sS]
      refine wpq_tk 15 (some 52) [32] (Or.inl ⟨by rfl, fun w hSw => by (obtain ⟨y0, y1, y2⟩ := hSw; go_simp; with_reducible rfl)⟩) hHeld ?_ rfl rfl
      simp only [Act.put, sA, sZ, sS]
      refine wpq_tk 16 (some 53) [32] (Or.inl ⟨by rfl, fun w hSw => by (obtain ⟨y0, y1, y2⟩ := hSw; go_simp; with_reducible rfl)⟩) hHeld ?_ rfl rfl
      simp only [Act.put, sA, sZ, sS]
      refine wpq_tk 17 (some 54) [32] (Or.inl ⟨by rfl, fun w hSw => by (obtain ⟨y0, y1, y2⟩ := hSw; go_simp; with_reducible rfl)⟩) hHeld ?_ rfl rfl
      simp only [Act.put, sA, sZ, sS]
      refine wpq_tk 18 (some 55) [32] (Or.inl ⟨by rfl, fun w hSw => by (obtain ⟨y0, y1, y2⟩ := hSw; go_simp; with_reducible rfl)⟩) hHeld ?_ rfl rfl
      simp only [Act.put, sA, sZ, sS]
      refine wpq_tk 19 (some 56) [32] (Or.inl ⟨by rfl, fun w hSw => by (obtain ⟨y0, y1, y2⟩ := hSw; go_simp; with_reducible rfl)⟩) hHeld ?_ rfl rfl
      simp only [Act.put, sA, sZ, sS]
      refine wpq_tk 20 (some 57) [32] (Or.inl ⟨by rfl, fun w hSw => by (obtain ⟨y0, y1, y2⟩ := hSw; go_simp; with_reducible rfl)⟩) hHeld ?_ rfl rfl
      simp only [Act.put, sA, sZ, sS]
      refine wpq_tk 21 (some 58) [32] (Or.inl ⟨by rfl, fun w hSw => by (obtain ⟨y0, y1, y2⟩ := hSw; go_simp; with_reducible rfl)⟩) hHeld ?_ rfl rfl
      simp only [Act.put, sA, sZ, sS]
      refine wpq_tk 22 (some 59) [32] (Or.inl ⟨by rfl, fun w hSw => by (obtain ⟨y0, y1, y2⟩ := hSw; go_simp; with_reducible rfl)⟩) hHeld ?_ rfl rfl
      simp only [Act.put, sA, sZ, sS]
      refine wpq_tk 23 (some 60) [32] (Or.inl ⟨by rfl, fun w hSw => by (obtain ⟨y0, y1, y2⟩ := hSw; go_simp; with_reducible rfl)⟩) hHeld ?_ rfl rfl
      simp only [Act.put, sA, sZ, sS]
      refine wpq_tk 24 (some 61) [32] (Or.inl ⟨by rfl, fun w hSw => by (obtain ⟨y0, y1, y2⟩ := hSw; go_simp; with_reducible rfl)⟩) hHeld ?_ rfl rfl
      simp only [Act.put, sA, sZ, sS]
      refine wpq_tk 25 (some 62) [32] (Or.inl ⟨by rfl, fun w hSw => by (obtain ⟨y0, y1, y2⟩ := hSw; go_simp; with_reducible rfl)⟩) hHeld ?_ rfl rfl
      simp only [Act.put, sA, sZ, sS]
      refine wpq_tk 26 (some 63) [32] (Or.inl ⟨by rfl, fun w hSw => by (obtain ⟨y0, y1, y2⟩ := hSw; go_simp; with_reducible rfl)⟩) hHeld ?_ rfl rfl
      simp only [Act.put, sA, sZ, sS]
      refine wpq_tk 27 (some 64) [32] (Or.inl ⟨by rfl, fun w hSw => by (obtain ⟨y0, y1, y2⟩ := hSw; go_simp; with_reducible rfl)⟩) hHeld ?_ rfl rfl
      simp only [Act.put, sA, sZ, sS]
      refine wpq_tk 28 (some 65) [32] (Or.inl ⟨by rfl, fun w hSw => by (obtain ⟨y0, y1, y2⟩ := hSw; go_simp; with_reducible rfl)⟩) hHeld ?_ rfl rfl
      simp only [Act.put, sA, sZ, sS]
      refine wpq_tk 29 (some 66) [32] (Or.inl ⟨by rfl, fun w hSw => by (obtain ⟨y0, y1, y2⟩ := hSw; go_simp; with_reducible rfl)⟩) hHeld ?_ rfl rfl
      simp only [Act.put, sA, sZ, sS]
      refine wpq_tk 30 (some 67) [32] (Or.inl ⟨by rfl, fun w hSw => by (obtain ⟨y0, y1, y2⟩ := hSw; go_simp; with_reducible rfl)⟩) hHeld ?_ rfl rfl
      simp only [Act.put, sA, sZ, sS]
      refine wpq_tk 31 (some 68) [32] (Or.inl ⟨by rfl, fun w hSw => by (obtain ⟨y0, y1, y2⟩ := hSw; go_simp; with_reducible rfl)⟩) hHeld ?_ rfl rfl
      simp only [Act.put, sA, sZ, sS]
      refine wpq_end 32 (by kernel_rfl) rfl (by kernel_rfl) (fun K hK => ?_)
      obtain ⟨y0, y1, y2⟩ := hHeld
      go_simp
      refine hK.out _ _ ?_
      clear hK K y0 y1 y2
      refine wpq_done (by kernel_rfl) ?_ _
      go_simp
      go_wp2_with fail
      exact ⟨⟨k + 1, by omega, by simp, HP2.out.1, HP2.out.2⟩, by simp [intOf]; omega⟩
    ·have HP2 := Lib.hid (HPUT.out false ⟨fun h => (by cases h), fun h => absurd (HRG.out.1 h.2).1 hlo⟩)
     clear hF HPUT HRG
     go_upto_region 9 with fail
     refine wpq_region (fun w' => w'.cell? ⟨a, k, none⟩ = some (.bool true) ∧ w'.cell? ⟨g, 1, none⟩ = some (.int .i64 lo) ∧ w'.cell? ⟨g, 2, none⟩ = some (.int .i64 hh)) 32 (by kernel_rfl) ⟨hca, hc1, hc2⟩ (fun hHeld => ?_)
     have HHD := And.intro hca (And.intro hc1 hc2)
     clear hca hc1 hc2 hHeld
     have hHeld : wr.drew.cell? ⟨a, k, none⟩ = some (.bool true) ∧ wr.drew.cell? ⟨g, 1, none⟩ = some (.int .i64 lo) ∧ wr.drew.cell? ⟨g, 2, none⟩ = some (.int .i64 hh) := HHD
     have hfz2 : wr.drew.frozen? ⟨w.heap.size, k + 1, none⟩ = false := hfz
     have hcx2 : wr.drew.cell? ⟨w.heap.size, k + 1, none⟩ = some x0 := hcx
     clear hfz hcx
     generalize wr.drew = wd at *
     refine wpq_tk 0 (some 37) [32] (Or.inl ⟨by rfl, fun w hSw => by (obtain ⟨y0, y1, y2⟩ := hSw; go_simp; with_reducible rfl)⟩) hHeld ?_ rfl rfl
     simp only [Act.put, sA, sZ, sS]
     refine wpq_tk 1 (some 38) [32] (Or.inl ⟨by rfl, fun w hSw => by (obtain ⟨y0, y1, y2⟩ := hSw; go_simp; with_reducible rfl)⟩) hHeld ?_ rfl rfl
     simp only [Act.put, sA, sZ, sS]
     refine wpq_tk 2 (some 39) [32] (Or.inl ⟨by rfl, fun w hSw => by (obtain ⟨y0, y1, y2⟩ := hSw; go_simp; with_reducible rfl)⟩) hHeld ?_ rfl rfl
     simp only [Act.put, sA, sZ, sS]
     refine wpq_tk 3 (some 40) [32] (Or.inl ⟨by rfl, fun w hSw => by (obtain ⟨y0, y1, y2⟩ := hSw; go_simp; with_reducible rfl)⟩) hHeld ?_ rfl rfl
     simp only [Act.put, sA, sZ, sS]
     refine wpq_tk 4 (some 41) [32] (Or.inl ⟨by rfl, fun w hSw => by (obtain ⟨y0, y1, y2⟩ := hSw; go_simp; with_reducible rfl)⟩) hHeld ?_ rfl rfl
     simp only [Act.put, sA, sZ, sS]
     refine wpq_tk 5 (some 42) [32] (Or.inl ⟨by rfl, fun w hSw => by (obtain ⟨y0, y1, y2⟩ := hSw; go_simp; with_reducible rfl)⟩) hHeld ?_ rfl rfl
     simp only [Act.put, sA, sZ, sS]
     refine wpq_tk 6 (some 43) [32] (Or.inl ⟨by rfl, fun w hSw => by (obtain ⟨y0, y1, y2⟩ := hSw; go_simp; with_reducible rfl)⟩) hHeld ?_ rfl rfl
     simp only [Act.put, sA, sZ, sS]
     refine wpq_tk 7 (some 44) [32] (Or.inl ⟨by rfl, fun w hSw => by (obtain ⟨y0, y1, y2⟩ := hSw; go_simp; with_reducible rfl)⟩) hHeld ?_ rfl rfl
     simp only [Act.put, sA, sZ, sS]
     refine wpq_tk 8 (some 45) [32] (Or.inl ⟨by rfl, fun w hSw => by (obtain ⟨y0, y1, y2⟩ := hSw; go_simp; with_reducible rfl)⟩) hHeld ?_ rfl rfl
     simp only [Act.put, sA, sZ, sS]
     refine wpq_tk 9 (some 46) [32] (Or.inl ⟨by rfl, fun w hSw => by (obtain ⟨y0, y1, y2⟩ := hSw; go_simp; with_reducible rfl)⟩) hHeld ?_ rfl rfl
     simp only [Act.put, sA, sZ, sS]
     refine wpq_tk 10 (some 47) [32] (Or.inl ⟨by rfl, fun w hSw => by (obtain ⟨y0, y1, y2⟩ := hSw; go_simp; with_reducible rfl)⟩) hHeld ?_ rfl rfl
     simp only [Act.put, sA, sZ, sS]
     refine wpq_tk 11 (some 48) [32] (Or.inl ⟨by rfl, fun w hSw => by (obtain ⟨y0, y1, y2⟩ := hSw; go_simp; with_reducible rfl)⟩) hHeld ?_ rfl rfl
     simp only [Act.put, sA, sZ, sS]
     refine wpq_tk 12 (some 49) [32] (Or.inl ⟨by rfl, fun w hSw => by (obtain ⟨y0, y1, y2⟩ := hSw; go_simp; with_reducible rfl)⟩) hHeld ?_ rfl rfl
     simp only [Act.put, sA, sZ, sS]
     refine wpq_tk 13 (some 50) [32] (Or.inl ⟨by rfl, fun w hSw => by (obtain ⟨y0, y1, y2⟩ := hSw; go_simp; with_reducible rfl)⟩) hHeld ?_ rfl rfl
     simp only [Act.put, sA, sZ, sS]
     refine wpq_tk 14 (some 51) [32] (Or.inl ⟨by rfl, fun w hSw => by (obtain ⟨y0, y1, y2⟩ := hSw; go_simp; with_reducible rfl)⟩) hHeld ?_ rfl rfl
     simp only [Act.put, sA, sZ, sS]
     refine wpq_tk 15 (some 52) [32] (Or.inl ⟨by rfl, fun w hSw => by (obtain ⟨y0, y1, y2⟩ := hSw; go_simp; with_reducible rfl)⟩) hHeld ?_ rfl rfl
     simp only [Act.put, sA, sZ, sS]
     refine wpq_tk 16 (some 53) [32] (Or.inl ⟨by rfl, fun w hSw => by (obtain ⟨y0, y1, y2⟩ := hSw; go_simp; with_reducible rfl)⟩) hHeld ?_ rfl rfl
     simp only [Act.put, sA, sZ, sS]
     refine wpq_tk 17 (some 54) [32] (Or.inl ⟨by rfl, fun w hSw => by (obtain ⟨y0, y1, y2⟩ := hSw; go_simp; with_reducible rfl)⟩) hHeld ?_ rfl rfl
     simp only [Act.put, sA, sZ, sS]
     refine wpq_tk 18 (some 55) [32] (Or.inl ⟨by rfl, fun w hSw => by (obtain ⟨y0, y1, y2⟩ := hSw; go_simp; with_reducible rfl)⟩) hHeld ?_ rfl rfl
     simp only [Act.put, sA, sZ, sS]
     refine wpq_tk 19 (some 56) [32] (Or.inl ⟨by rfl, fun w hSw => by (obtain ⟨y0, y1, y2⟩ := hSw; go_simp; with_reducible rfl)⟩) hHeld ?_ rfl rfl
     simp only [Act.put, sA, sZ, sS]
     refine wpq_tk 20 (some 57) [32] (Or.inr ⟨by rfl, rfl⟩) hHeld ?_ rfl rfl
     simp only [Act.put, sA, sZ, sS]
     refine wpq_tk 21 (some 58) [32] (Or.inr ⟨by rfl, rfl⟩) hHeld ?_ rfl rfl
     simp only [Act.put, sA, sZ, sS]
     refine wpq_tk 22 (some 59) [32] (Or.inr ⟨by rfl, rfl⟩) hHeld ?_ rfl rfl
     simp only [Act.put, sA, sZ, sS]
     refine wpq_tk 23 (some 60) [32] (Or.inr ⟨by rfl, rfl⟩) hHeld ?_ rfl rfl
     simp only [Act.put, sA, sZ, sS]
     refine wpq_tk 24 (some 61) [32] (Or.inr ⟨by rfl, rfl⟩) hHeld ?_ rfl rfl
     simp only [Act.put, sA, sZ, sS]
     refine wpq_tk 25 (some 62) [32] (Or.inr ⟨by rfl, rfl⟩) hHeld ?_ rfl rfl
     simp only [Act.put, sA, sZ, sS]
     refine wpq_tk 26 (some 63) [32] (Or.inr ⟨by rfl, rfl⟩) hHeld ?_ rfl rfl
     simp only [Act.put, sA, sZ, sS]
     refine wpq_tk 27 (some 64) [32] (Or.inr ⟨by rfl, rfl⟩) hHeld ?_ rfl rfl
     simp only [Act.put, sA, sZ, sS]
     refine wpq_tk 28 (some 65) [32] (Or.inr ⟨by rfl, rfl⟩) hHeld ?_ rfl rfl
     simp only [Act.put, sA, sZ, sS]
     refine wpq_tk 29 (some 66) [32] (Or.inr ⟨by rfl, rfl⟩) hHeld ?_ rfl rfl
     simp only [Act.put, sA, sZ, sS]
     refine wpq_tk 30 (some 67) [32] (Or.inl ⟨by rfl, fun w hSw => by (obtain ⟨y0, y1, y2⟩ := hSw; go_simp; with_reducible rfl)⟩) hHeld ?_ rfl rfl
     simp only [Act.put, sA, sZ, sS]
     refine wpq_tk 31 (some 68) [32] (Or.inl ⟨by rfl, fun w hSw => by (obtain ⟨y0, y1, y2⟩ := hSw; go_simp; with_reducible rfl)⟩) hHeld ?_ rfl rfl
     simp only [Act.put, sA, sZ, sS]
     refine wpq_end 32 (by kernel_rfl) rfl (by kernel_rfl) (fun K hK => ?_)
     obtain ⟨y0, y1, y2⟩ := hHeld
     go_simp
     refine hK.out _ _ ?_
     clear hK K y0 y1 y2
     refine wpq_done (by kernel_rfl) ?_ _
     go_simp
     go_wp2_with fail
     exact ⟨⟨k + 1, by omega, by simp, HP2.out.1, HP2.out.2⟩, by simp [intOf]; omega⟩
   ·rw [bvB_false hF] at hca
    have HP2 := Lib.hid (HPUT.out false ⟨fun h => (by cases h), fun h => absurd h.1 hF⟩)
    clear hF HPUT HRG
    go_upto_region 9 with fail
    refine wpq_region (fun w' => w'.cell? ⟨a, k, none⟩ = some (.bool false) ∧ w'.cell? ⟨g, 1, none⟩ = some (.int .i64 lo) ∧ w'.cell? ⟨g, 2, none⟩ = some (.int .i64 hh)) 32 (by kernel_rfl) ⟨hca, hc1, hc2⟩ (fun hHeld => ?_)
    have HHD := And.intro hca (And.intro hc1 hc2)
    clear hca hc1 hc2 hHeld
    have hHeld : wr.drew.cell? ⟨a, k, none⟩ = some (.bool false) ∧ wr.drew.cell? ⟨g, 1, none⟩ = some (.int .i64 lo) ∧ wr.drew.cell? ⟨g, 2, none⟩ = some (.int .i64 hh) := HHD
    have hfz2 : wr.drew.frozen? ⟨w.heap.size, k + 1, none⟩ = false := hfz
    have hcx2 : wr.drew.cell? ⟨w.heap.size, k + 1, none⟩ = some x0 := hcx
    clear hfz hcx
    generalize wr.drew = wd at *
    refine wpq_tk 0 (some 37) [32] (Or.inl ⟨by rfl, fun w hSw => by (obtain ⟨y0, y1, y2⟩ := hSw; go_simp; with_reducible rfl)⟩) hHeld ?_ rfl rfl
    simp only [Act.put, sA, sZ, sS]
    refine wpq_tk 1 (some 38) [32] (Or.inl ⟨by rfl, fun w hSw => by (obtain ⟨y0, y1, y2⟩ := hSw; go_simp; with_reducible rfl)⟩) hHeld ?_ rfl rfl
    simp only [Act.put, sA, sZ, sS]
    refine wpq_tk 2 (some 39) [32] (Or.inl ⟨by rfl, fun w hSw => by (obtain ⟨y0, y1, y2⟩ := hSw; go_simp; with_reducible rfl)⟩) hHeld ?_ rfl rfl
    simp only [Act.put, sA, sZ, sS]
    refine wpq_tk 3 (some 40) [32] (Or.inl ⟨by rfl, fun w hSw => by (obtain ⟨y0, y1, y2⟩ := hSw; go_simp; with_reducible rfl)⟩) hHeld ?_ rfl rfl
    simp only [Act.put, sA, sZ, sS]
    refine wpq_tk 4 (some 41) [32] (Or.inl ⟨by rfl, fun w hSw => by (obtain ⟨y0, y1, y2⟩ := hSw; go_simp; with_reducible rfl)⟩) hHeld ?_ rfl rfl
    simp only [Act.put, sA, sZ, sS]
    refine wpq_tk 5 (some 42) [32] (Or.inl ⟨by rfl, fun w hSw => by (obtain ⟨y0, y1, y2⟩ := hSw; go_simp; with_reducible rfl)⟩) hHeld ?_ rfl rfl
    simp only [Act.put, sA, sZ, sS]
    refine wpq_tk 6 (some 43) [32] (Or.inl ⟨by rfl, fun w hSw => by (obtain ⟨y0, y1, y2⟩ := hSw; go_simp; with_reducible rfl)⟩) hHeld ?_ rfl rfl
    simp only [Act.put, sA, sZ, sS]
    refine wpq_tk 7 (some 44) [32] (Or.inl ⟨by rfl, fun w hSw => by (obtain ⟨y0, y1, y2⟩ := hSw; go_simp; with_reducible rfl)⟩) hHeld ?_ rfl rfl
    simp only [Act.put, sA, sZ, sS]
    refine wpq_tk 8 (some 45) [32] (Or.inr ⟨by rfl, rfl⟩) hHeld ?_ rfl rfl
    simp only [Act.put, sA, sZ, sS]
    refine wpq_tk 9 (some 46) [32] (Or.inr ⟨by rfl, rfl⟩) hHeld ?_ rfl rfl
    simp only [Act.put, sA, sZ, sS]
    refine wpq_tk 10 (some 47) [32] (Or.inr ⟨by rfl, rfl⟩) hHeld ?_ rfl rfl
    simp only [Act.put, sA, sZ, sS]
    refine wpq_tk 11 (some 48) [32] (Or.inr ⟨by rfl, rfl⟩) hHeld ?_ rfl rfl
    simp only [Act.put, sA, sZ, sS]
    refine wpq_tk 12 (some 49) [32] (Or.inr ⟨by rfl, rfl⟩) hHeld ?_ rfl rfl
    simp only [Act.put, sA, sZ, sS]
    refine wpq_tk 13 (some 50) [32] (Or.inr ⟨by rfl, rfl⟩) hHeld ?_ rfl rfl
    simp only [Act.put, sA, sZ, sS]
    refine wpq_tk 14 (some 51) [32] (Or.inr ⟨by rfl, rfl⟩) hHeld ?_ rfl rfl
    simp only [Act.put, sA, sZ, sS]
    refine wpq_tk 15 (some 52) [32] (Or.inr ⟨by rfl, rfl⟩) hHeld ?_ rfl rfl
    simp only [Act.put, sA, sZ, sS]
    refine wpq_tk 16 (some 53) [32] (Or.inr ⟨by rfl, rfl⟩) hHeld ?_ rfl rfl
    simp only [Act.put, sA, sZ, sS]
    refine wpq_tk 17 (some 54) [32] (Or.inr ⟨by rfl, rfl⟩) hHeld ?_ rfl rfl
    simp only [Act.put, sA, sZ, sS]
    refine wpq_tk 18 (some 55) [32] (Or.inl ⟨by rfl, fun w hSw => by (obtain ⟨y0, y1, y2⟩ := hSw; go_simp; with_reducible rfl)⟩) hHeld ?_ rfl rfl
    simp only [Act.put, sA, sZ, sS]
    refine wpq_tk 19 (some 56) [32] (Or.inl ⟨by rfl, fun w hSw => by (obtain ⟨y0, y1, y2⟩ := hSw; go_simp; with_reducible rfl)⟩) hHeld ?_ rfl rfl
    simp only [Act.put, sA, sZ, sS]
    refine wpq_tk 20 (some 57) [32] (Or.inr ⟨by rfl, rfl⟩) hHeld ?_ rfl rfl
    simp only [Act.put, sA, sZ, sS]
    refine wpq_tk 21 (some 58) [32] (Or.inr ⟨by rfl, rfl⟩) hHeld ?_ rfl rfl
    simp only [Act.put, sA, sZ, sS]
    refine wpq_tk 22 (some 59) [32] (Or.inr ⟨by rfl, rfl⟩) hHeld ?_ rfl rfl
    simp only [Act.put, sA, sZ, sS]
    refine wpq_tk 23 (some 60) [32] (Or.inr ⟨by rfl, rfl⟩) hHeld ?_ rfl rfl
    simp only [Act.put, sA, sZ, sS]
    refine wpq_tk 24 (some 61) [32] (Or.inr ⟨by rfl, rfl⟩) hHeld ?_ rfl rfl
    simp only [Act.put, sA, sZ, sS]
    refine wpq_tk 25 (some 62) [32] (Or.inr ⟨by rfl, rfl⟩) hHeld ?_ rfl rfl
    simp only [Act.put, sA, sZ, sS]
    refine wpq_tk 26 (some 63) [32] (Or.inr ⟨by rfl, rfl⟩) hHeld ?_ rfl rfl
    simp only [Act.put, sA, sZ, sS]
    refine wpq_tk 27 (some 64) [32] (Or.inr ⟨by rfl, rfl⟩) hHeld ?_ rfl rfl
    simp only [Act.put, sA, sZ, sS]
    refine wpq_tk 28 (some 65) [32] (Or.inr ⟨by rfl, rfl⟩) hHeld ?_ rfl rfl
    simp only [Act.put, sA, sZ, sS]
    refine wpq_tk 29 (some 66) [32] (Or.inr ⟨by rfl, rfl⟩) hHeld ?_ rfl rfl
    simp only [Act.put, sA, sZ, sS]
    refine wpq_tk 30 (some 67) [32] (Or.inl ⟨by rfl, fun w hSw => by (obtain ⟨y0, y1, y2⟩ := hSw; go_simp; with_reducible rfl)⟩) hHeld ?_ rfl rfl
    simp only [Act.put, sA, sZ, sS]
    refine wpq_tk 31 (some 68) [32] (Or.inl ⟨by rfl, fun w hSw => by (obtain ⟨y0, y1, y2⟩ := hSw; go_simp; with_reducible rfl)⟩) hHeld ?_ rfl rfl
    simp only [Act.put, sA, sZ, sS]
    refine wpq_end 32 (by kernel_rfl) rfl (by kernel_rfl) (fun K hK => ?_)
    obtain ⟨y0, y1, y2⟩ := hHeld
    go_simp
    refine hK.out _ _ ?_
    clear hK K y0 y1 y2
    refine wpq_done (by kernel_rfl) ?_ _
    go_simp
    go_wp2_with fail
    exact ⟨⟨k + 1, by omega, by simp, HP2.out.1, HP2.out.2⟩, by simp [intOf]; omega⟩
theorem ends_m5 (s : List UInt8) (sb : ByteArray) (hL : L sb = s) (hsz : s.length ≤ 1000000) (Rb : Nat → Option RX) (d : Nat) (hd : d + 1 ≤ 48) (IH0 : EndM s sb Rb d) (Z : Nat → Prop) (lo hh mn mx : Int) (l : List RX) (g : Nat) (F : Nat → Prop) (a : Nat) (w : World) (hZ : ∀ x, Z x → x < w.heap.size) (hsp : SpR (s.length + 1) Rb w g (.mk 5 lo hh mn mx l)) (hsn : sndR (d + 1) (.mk 5 lo hh mn mx l) = true) (hmz : MemoZ s Rb Z w) (hna : Rb a = none) (hnz : ¬ Z a) (hbl : BlkB w a (s.length + 1) F) :
  Calls Tryz.prog 60 #[ptrS g, .string sb, svB a (s.length + 1)] w (RetM s Rb Z (img s.length F (memR s 48 (.mk 5 lo hh mn mx l))) w) := by
 have hls : s.length = sb.size := by rw [← hL]; exact L_len sb
 have hkd := (snd_node hsn).2
 have HFW := Lib.hid (form_ways (snd_node hsn).1)
 have HSP := Lib.hid hsp
 obtain ⟨ca, av, rv, gs, hbx, hng, hsl, hnav, hkids, -⟩ := hsp.open
 obtain ⟨aa, acap, rfl, al1, al2, al3, al4⟩ := hsl
 have hml : (l.length : Int) ≤ 9223372036854775807 := by simp only [maxLen] at al2; omega
 have HZ := Lib.hid hZ
 have HBX := Lib.hid (And.intro hbx hng)
 have HAA := Lib.hid al4
 have HNA := Lib.hid hnav
 have HKD := Lib.hid hkids
 have HSD := Lib.hid hkd
 have HS47 : Hid (∀ q ∈ l, sndR 47 q = true) := fun q hq => snd_le (by omega) (hkd q hq)
 have HLS := Lib.hid hls
 have HL := Lib.hid hL
 have IH := Lib.hid IH0
 have HF := Lib.hid (show EnS s Rb Z w w a F from ⟨hna, hnz, hbl, hmz, KeepM.refl _ _⟩)
 have hmk := run_make_row' (P := Tryz.prog) 84 4 (.bool false) 1 Tryz.underlying84 bool_infoZ rfl .i64 .i64 (sb.size + 1) (by omega) (by omega)
 rw [show ((sb.size + 1 : Nat) : Int) = (sb.size : Int) + 1 by omega] at hmk
 have hsbi : (sb.size : Int) ≤ 1000000 := by omega
 obtain ⟨t0, t1, t2, t3, t4, t6, t7⟩ := hbx.cells
 simp only at t0 t1 t2 t3 t4 t6 t7
 clear hZ hsp hsn hmz hna hnz hbl hbx hng al1 al2 al3 al4 hnav hkids hkd IH0 hls hL hsz
 simp only [ptrS, svB, HLS.out]
 go_enter Tryz.func60, Tryz.ntmps60
 go_upto_region 2 with fail
 generalize hW : World.alloc w _ = w1
 have hb1 : Below w.heap.size w w1 := hW ▸ (Below.refl _ _).alloc (Nat.le_refl _) _
 have HO1 := Lib.hid (show EnS s Rb Z w w1 w.heap.size (fun _ => False) from (HF.out).join HZ.out (Nat.le_refl _) (by rw [HLS.out]; exact hW ▸ blk_made w (sb.size + 1)) hb1)
 have HF1 := Lib.hid (HF.out.stay hb1)
 clear hW hb1 hmk t0 t1 t2 t3 t4 t6 t7
 obtain ⟨t0, t1, t2, t3, t4, t6, t7⟩ := (HBX.out.1.keepM HBX.out.2 HO1.out.keep).cells
 simp only at t0 t1 t2 t3 t4 t6 t7
 have hfm : 0 ≤ mn ∧ mn ≤ 64 ∧ (mx = -1 ∨ (mn ≤ mx ∧ mx ≤ 64)) ∧ l.length = 1 := by
  rcases HFW.out with ⟨h | h, _⟩ | ⟨h, _⟩ | ⟨h | h | h, _⟩ | ⟨_, h1, _, _, h2, h3, h4⟩ | ⟨h, _⟩
  ·cases h
  ·cases h
  ·cases h
  ·cases h
  ·cases h
  ·cases h
  ·exact ⟨h2, h3, h4, h1⟩
  ·cases h
 obtain ⟨h2, h3, h4, h1⟩ := hfm
 obtain ⟨q, rfl⟩ := List.length_eq_one_iff.1 h1
 obtain ⟨ga, oa, rfl, hga, hca⟩ := HAA.out (by simp)
 have HGA : Hid (ga < w.heap.size ∧ Rb ga = none) := ⟨hga, HNA.out ga oa _ _ rfl (by simp)⟩
 have HCP := Lib.hid hca
 have HKQ := Lib.hid (HKD.out 0 (by simp))
 have HSQ := Lib.hid (HSD.out q (by simp))
 have HQ47 := Lib.hid (HS47.out q (by simp))
 rw [show ([q] : List RX)[0] = q from rfl] at HKQ
 have HLE := Lib.hid (fun i j (hi : i ≤ s.length) (hm : memR s 48 q i j) => mm_le (snd_le (by omega) HQ47.out) hi hm)
 obtain ⟨n0, rfl⟩ : ∃ n0 : Nat, mn = (n0 : Int) := ⟨mn.toNat, by omega⟩
 have HB0 : Hid (n0 ≤ 64 ∧ (mx = -1 ∨ ((n0 : Int) ≤ mx ∧ mx ≤ 64))) := ⟨by omega, h4⟩
 have hmn : (n0 : Int) ≤ 64 := h3
 have HCALL := Lib.hid (fun b G wr (h : EnS s Rb Z w wr b G) => (show Calls Tryz.prog 60 #[.pointer (some ⟨gs 0, 0, none⟩), .string sb, .slice (some ⟨b, 0, none⟩) (sb.size + 1) (sb.size + 1)] wr (RetM s Rb Z (img s.length G (memR s 48 q)) wr) from by
  have := IH.out Z q (gs 0) G b wr (fun x hx => Nat.lt_of_lt_of_le (HZ.out x hx) h.keep.size) (HKQ.out.keepM h.keep) HSQ.out h.memo h.rb h.nz h.blk
  unfold svB ptrS at this
  rw [HLS.out] at this ⊢
  exact this))
 have HEQL := Lib.hid (fun b c G H wr (hb : BlkB wr b (s.length + 1) G) (hc : BlkB wr c (s.length + 1) H) => (show Calls Tryz.prog 91 #[.slice (some ⟨b, 0, none⟩) (sb.size + 1) (sb.size + 1), .slice (some ⟨c, 0, none⟩) (sb.size + 1) (sb.size + 1)] wr fun e w' => e = .returned (.bool (eqB (s.length + 1) G H)) ∧ Below wr.heap.size wr w' from by
  have := equal_any (s.length + 1) b c G H wr (by have := HLS.out; omega) hb hc
  unfold svB at this
  rw [HLS.out] at this ⊢
  exact this))
 have HEIT := Lib.hid (fun b c G H wr (hb : BlkB wr b (s.length + 1) G) (hc : BlkB wr c (s.length + 1) H) => (show Calls Tryz.prog 89 #[.slice (some ⟨b, 0, none⟩) (sb.size + 1) (sb.size + 1), .slice (some ⟨c, 0, none⟩) (sb.size + 1) (sb.size + 1)] wr fun e w' => ∃ g, e = .returned (.slice (some ⟨g, 0, none⟩) (sb.size + 1) (sb.size + 1)) ∧ wr.heap.size ≤ g ∧ BlkB w' g (s.length + 1) (fun j => G j ∨ H j) ∧ Below wr.heap.size wr w' from by
  have := either_any (s.length + 1) b c G H wr (by have := HLS.out; omega) hb hc
  unfold svB at this
  rw [HLS.out] at this ⊢
  exact this))
 rw [show ([q] : List RX).length = 1 from rfl] at *
 clear h1 h2 h3 h4 hga hca HAA HNA HKD HSD HS47 IH hml
 have HX0 := Lib.hid (HF1.out.congr (H := powS s.length F (memR s 48 q) 0) (fun j hj => (powS_zero j (by omega)).symm))
 go_upto_block 9 with fail
 go_cut [12] (fun v wx => ∃ b, v = .slice (some ⟨b, 0, none⟩) (sb.size + 1) (sb.size + 1) ∧ Hid (EnS s Rb Z w wx b (powS s.length F (memR s 48 q) n0)))
 case first =>
  go_wp2_with fail
  go_loopw [12, 13, 14] (fun nv iv _ wr => ∃ (k b : Nat), k ≤ n0 ∧ iv = .int .i64 (k : Int) ∧ nv = .slice (some ⟨b, 0, none⟩) (sb.size + 1) (sb.size + 1) ∧ Hid (EnS s Rb Z w wr b (powS s.length F (memR s 48 q) k))) (fun _ iv _ _ => n0 - (intOf iv).toNat)
  case atStart => exact ⟨0, a, Nat.zero_le _, rfl, rfl, HX0.out⟩
  case round =>
   clear HX0 HO1 HF1 t0 t1 t2 t3 t4 t6 t7
   obtain ⟨k, b, hk, rfl, rfl, HX⟩ := hrel
   obtain ⟨t0, t1, t2, t3, t4, t6, t7⟩ := (HBX.out.1.keepM HBX.out.2 HX.out.keep).cells
   have hcp : wr.cell? ⟨ga, oa, none⟩ = some (.pointer (some ⟨gs 0, 0, none⟩)) := by
    have h := HCP.out 0 (by decide) 0 (by omega)
    simp only [Nat.zero_mul, Nat.add_zero] at h
    rw [HX.out.keep.cell HGA.out.1 HGA.out.2, h]
    rfl
   simp only at t0 t1 t2 t3 t4 t6 t7
   by_cases hlt : k < n0
   case neg =>
    have hge : ¬ (k : Int) < n0 := by omega
    have hkn : k = n0 := by omega
    subst hkn
    clear hlt
    go_wp2_with fail
    go_meet
    exact ⟨b, rfl, HX.out⟩
   case pos =>
    have hlti : (k : Int) < n0 := by omega
    have HLT := Lib.hid hlt
    have HCL := Lib.hid (HCALL.out b _ wr HX.out)
    clear hlt
    go_wp2_with fail
    refine HCL.out.mono ?_
    rintro e w6 hret
    obtain ⟨b2, rfl, h5, h6⟩ := HX.out.call hret
    have H5 := Lib.hid h5
    have H6 := Lib.hid (h6.congr (H := powS s.length F (memR s 48 q) (k + 1)) (fun j hj => (powS_succ (fun i j => HLE.out i j) k j).symm))
    simp only [HLS.out, svB]
    clear hret h5 h6 HCL HX t0 t1 t2 t3 t4 t6 t7 hcp
    by_cases he : ∀ j, j < s.length + 1 → (powS s.length F (memR s 48 q) (k + 1) j ↔ powS s.length F (memR s 48 q) k j)
    ·have HEQ := HEQL.out b2 b _ _ w6 H6.out.blk H5.out.blk
     rw [eqB_true.2 he] at HEQ
     have HEQ2 := Lib.hid HEQ
     have HFIN := Lib.hid (H5.out.congr (H := powS s.length F (memR s 48 q) n0) (fun j hj => low_done (fun i j => HLE.out i j) (by omega) (.inr (fun j hj => he j (by omega))) j (by omega)))
     clear HEQ he
     go_wp2_with fail
     refine HEQ2.out.mono ?_
     rintro e w7 ⟨rfl, hb⟩
     have HF7 := Lib.hid (HFIN.out.stay hb)
     clear hb HEQ2 HFIN H5 H6
     go_wp2_with fail
     go_meet
     exact ⟨b, rfl, HF7.out⟩
    ·have HEQ := HEQL.out b2 b _ _ w6 H6.out.blk H5.out.blk
     rw [eqB_false he] at HEQ
     have HEQ2 := Lib.hid HEQ
     clear HEQ he
     go_wp2_with fail
     refine HEQ2.out.mono ?_
     rintro e w7 ⟨rfl, hb⟩
     have HF7 := Lib.hid (H6.out.stay hb)
     clear hb HEQ2 H5 H6
     go_wp2_with fail
     exact ⟨⟨k + 1, b2, by have := HLT.out; omega, by simp, rfl, HF7.out⟩, by have := HLT.out; simp [intOf]; omega⟩
 case rest =>
  obtain ⟨b0, rfl, HC0⟩ := hcut
  clear HX0 HO1 HF1 t0 t1 t2 t3 t4 t6 t7
  obtain ⟨t0, t1, t2, t3, t4, t6, t7⟩ := (HBX.out.1.keepM HBX.out.2 HC0.out.keep).cells
  simp only at t0 t1 t2 t3 t4 t6 t7
  have HO0 := Lib.hid (HC0.out.congr (H := outS s.length F (memR s 48 q) n0 0) (fun j hj => (outS_zero j).symm))
  have HDONE : Hid (∀ t : Nat, ((0 ≤ mx ∧ (n0 : Int) + t = mx) ∨ ((mx < 0 ∨ (n0 : Int) + t < mx) ∧ EqS s.length (outS s.length F (memR s 48 q) n0 (t + 1)) (outS s.length F (memR s 48 q) n0 t))) → ∀ j, j < s.length + 1 → (outS s.length F (memR s 48 q) n0 t j ↔ img s.length F (memR s 48 (.mk 5 lo hh (n0 : Int) mx [q])) j)) := by
   intro t ht j hj
   have h := rep_done s 47 lo hh (n0 : Int) mx q F t (by omega) (fun i j hi hm => HLE.out i j hi (by rw [← mm_kid HQ47.out]; exact hm))
   rw [mm_kid HQ47.out, Int.toNat_natCast] at h
   exact h ht j (by omega)
  go_wp2_with fail
  have hsl : (n0 : Int) ≤ 64 := hmn
  go_loopw [7, 12, 15, 16] (fun ov nv iv _ wr => ∃ (t b c : Nat), t ≤ sb.size + 1 ∧ iv = .int .i64 ((n0 + t : Nat) : Int) ∧ ov = .slice (some ⟨b, 0, none⟩) (sb.size + 1) (sb.size + 1) ∧ nv = .slice (some ⟨c, 0, none⟩) (sb.size + 1) (sb.size + 1)
   ∧ Hid (EnS s Rb Z w wr b (outS s.length F (memR s 48 q) n0 t)) ∧ Hid (EnS s Rb Z w wr c (powS s.length F (memR s 48 q) (n0 + t))) ∧ Hid (t ≤ cardS s.length (outS s.length F (memR s 48 q) n0 t) ∧ (mx = -1 ∨ (n0 : Int) + t ≤ mx))) (fun _ _ iv _ _ => n0 + sb.size + 2 - (intOf iv).toNat)
  case atStart => exact ⟨0, b0, b0, Nat.zero_le _, rfl, rfl, rfl, HO0.out, HC0.out, Nat.zero_le _, by have := HB0.out.2; omega⟩
  case round =>
   clear HO0 HC0 t0 t1 t2 t3 t4 t6 t7
   obtain ⟨t, b, c, ht, rfl, rfl, rfl, HX, HY, HT⟩ := hrel
   obtain ⟨t0, t1, t2, t3, t4, t6, t7⟩ := (HBX.out.1.keepM HBX.out.2 HX.out.keep).cells
   have hcp : wr.cell? ⟨ga, oa, none⟩ = some (.pointer (some ⟨gs 0, 0, none⟩)) := by
    have h := HCP.out 0 (by decide) 0 (by omega)
    simp only [Nat.zero_mul, Nat.add_zero] at h
    rw [HX.out.keep.cell HGA.out.1 HGA.out.2, h]
    rfl
   simp only at t0 t1 t2 t3 t4 t6 t7
   by_cases hgo : mx = -1 ∨ (n0 : Int) + t < mx
   case neg =>
    have hm1 : (mx == -1) = false := beq_false_of_ne (fun h => hgo (.inl h))
    have hm2 : ¬ ((n0 + t : Nat) : Int) < mx := by omega
    have HR := Lib.hid (HX.out.congr (HDONE.out t (.inl (by have := HT.out.2; omega))))
    clear hgo
    go_wp2_with fail
    go_ret
    have h := HR.out.ret
    rw [HLS.out] at h
    exact h
   case pos =>
    have HGO := Lib.hid hgo
    have key : ((mx == -1) = true) ∨ ((mx == -1) = false ∧ ((n0 + t : Nat) : Int) < mx) := by
     rcases hgo with h | h
     ·exact .inl (by rw [h]; rfl)
     ·by_cases h1 : mx = -1
      ·exact .inl (by rw [h1]; rfl)
      ·exact .inr ⟨beq_false_of_ne h1, by omega⟩
    have HCL := Lib.hid (HCALL.out c _ wr HY.out)
    clear hgo
    rcases key with k1 | ⟨k1, k2⟩
    all_goals
     go_wp2_with fail
     refine HCL.out.mono ?_
     rintro e w6 hret
     obtain ⟨c2, rfl, h5, h6⟩ := HX.out.call hret
     have H5 := Lib.hid h5
     have H6 := Lib.hid (h6.congr (H := powS s.length F (memR s 48 q) (n0 + (t + 1))) (fun j hj => (powS_succ (fun i j => HLE.out i j) (n0 + t) j).symm))
     have HEI := Lib.hid (HEIT.out b c2 _ _ w6 h5.blk H6.out.blk)
     simp only [HLS.out, svB]
     clear hret h5 h6 HCL HX HY t0 t1 t2 t3 t4 t6 t7 hcp
     go_wp2_with fail
     refine HEI.out.mono ?_
     rintro e w7 ⟨b3, rfl, hb3, hbk, hbe⟩
     have H7 := Lib.hid ((H5.out.join HZ.out hb3 hbk hbe).congr (H := outS s.length F (memR s 48 q) n0 (t + 1)) (fun j _ => (outS_succ j).symm))
     have H57 := Lib.hid (H5.out.stay hbe)
     have H67 := Lib.hid (H6.out.stay hbe)
     clear hb3 hbk hbe HEI H5 H6
     by_cases he : ∀ j, j < s.length + 1 → (outS s.length F (memR s 48 q) n0 (t + 1) j ↔ outS s.length F (memR s 48 q) n0 t j)
     ·have HEQ := HEQL.out b3 b _ _ w7 H7.out.blk H57.out.blk
      rw [eqB_true.2 he] at HEQ
      have HEQ2 := Lib.hid HEQ
      have HFIN := Lib.hid (H57.out.congr (HDONE.out t (.inr ⟨by have := HGO.out; omega, fun j hj => he j (by omega)⟩)))
      clear HEQ he
      go_wp2_with fail
      refine HEQ2.out.mono ?_
      rintro e w8 ⟨rfl, hb⟩
      have HR := Lib.hid (HFIN.out.stay hb)
      clear hb HEQ2 HFIN H57 H67 H7
      go_wp2_with fail
      go_ret
      have h := HR.out.ret
      rw [HLS.out] at h
      exact h
     ·have HEQ := HEQL.out b3 b _ _ w7 H7.out.blk H57.out.blk
      rw [eqB_false he] at HEQ
      have HEQ2 := Lib.hid HEQ
      have HCD : Hid (t + 1 ≤ cardS s.length (outS s.length F (memR s 48 q) n0 (t + 1)) ∧ t + 1 ≤ sb.size + 1) := by
       have h1 := cardS_lt (n := s.length) (F := outS s.length F (memR s 48 q) n0 t) (G := outS s.length F (memR s 48 q) n0 (t + 1)) (fun j hj h => (outS_succ j).2 (.inl h)) (fun h => he (fun j hj => h j (by omega)))
       have h2 := HT.out.1
       have h3 := cardS_le s.length (outS s.length F (memR s 48 q) n0 (t + 1))
       have h4 := HLS.out
       exact ⟨by omega, by omega⟩
      clear HEQ he
      go_wp2_with fail
      refine HEQ2.out.mono ?_
      rintro e w8 ⟨rfl, hb⟩
      have H8 := Lib.hid (H7.out.stay hb)
      have H68 := Lib.hid (H67.out.stay hb)
      clear hb HEQ2 H57 H67 H7
      go_wp2_with fail
      exact ⟨⟨t + 1, b3, c2, HCD.out.2, by simp; omega, rfl, rfl, H8.out, H68.out, HCD.out.1, by have := HGO.out; omega⟩, by have := HCD.out.2; simp [intOf]; omega⟩
theorem ends_every (s : List UInt8) (sb : ByteArray) (hL : L sb = s) (hsz : s.length ≤ 1000000) (Rb : Nat → Option RX) : ∀ d, d ≤ 48 → EndM s sb Rb d
 | 0, _ => fun _ _ _ _ _ _ _ _ h _ _ _ _ => by cases h
 | d + 1, hd => by
  intro Z p g F a w hZ hsp hsn hmz hna hnz hbl
  have IH := ends_every s sb hL hsz Rb d (by omega)
  obtain ⟨op, lo, hi, mn, mx, l⟩ := p
  rcases form_ways (snd_node hsn).1 with ⟨rfl | rfl, -⟩ | ⟨rfl, -⟩ | ⟨rfl | rfl | rfl, -⟩ | ⟨rfl, -⟩ | ⟨rfl, -⟩
  ·exact ends_m0 s sb hL hsz Rb d hd Z lo hi mn mx l g F a w hZ hsp hsn hmz hna hnz hbl
  ·exact ends_m1 s sb hL hsz Rb d hd Z lo hi mn mx l g F a w hZ hsp hsn hmz hna hnz hbl
  ·exact ends_m2 s sb hL hsz Rb d hd Z lo hi mn mx l g F a w hZ hsp hsn hmz hna hnz hbl
  ·exact ends_m3 s sb hL hsz Rb d hd IH Z lo hi mn mx l g F a w hZ hsp hsn hmz hna hnz hbl
  ·exact ends_m4 s sb hL hsz Rb d hd IH Z lo hi mn mx l g F a w hZ hsp hsn hmz hna hnz hbl
  ·exact ends_m6 s sb hL hsz Rb d hd (row_next s sb hL hsz Rb d hd IH) Z lo hi mn mx l g F a w hZ hsp hsn hmz hna hnz hbl
  ·exact ends_m5 s sb hL hsz Rb d hd IH Z lo hi mn mx l g F a w hZ hsp hsn hmz hna hnz hbl
  ·exact ends_m7 s sb hL hsz Rb d hd (row_next s sb hL hsz Rb d hd IH) Z lo hi mn mx l g F a w hZ hsp hsn hmz hna hnz hbl
theorem RMatch_any (sb : ByteArray) (hs : sb.size ≤ 1000000) (p : RX) (c : PC) (w : World) (hp : RdP w c p) (hcn : valR p = true → cntN 48 p ≤ 1000000) :
  Calls Tryz.prog 37 #[aggP c, .string sb] w fun e w' => e = .returned (.bool (matR p (L sb))) ∧ Below w.heap.size w w' := by
 have HP := Lib.hid hp
 have HCN := Lib.hid hcn
 have HMI := Lib.hid (mat_iff p (L sb))
 have HMF : Hid (valR p = false → matR p (L sb) = false) := fun h => by unfold matR; rw [h]; rfl
 generalize matR p (L sb) = T at *
 obtain ⟨la, lcap, hla⟩ := hp.forms
 obtain ⟨c0, c1, c2, c3, c4, c5⟩ := c
 simp only at hla
 generalize p.args.length = n at *
 subst hla
 have hmk := run_make_row' (P := Tryz.prog) 84 4 (.bool false) 1 Tryz.underlying84 bool_infoZ rfl .i64 .i64 (sb.size + 1) (by omega) (by omega)
 rw [show ((sb.size + 1 : Nat) : Int) = (sb.size : Int) + 1 by omega] at hmk
 have hsbi : (sb.size : Int) ≤ 1000000 := by omega
 simp only [aggP]
 clear hp hcn hs
 go_enter Tryz.func37, Tryz.ntmps37
 go_upto_region 1 with fail
 generalize hW : World.alloc w _ = w1
 obtain ⟨ha, -, hz1, hb1⟩ := alloc_of hW
 have HX := Lib.hid (show BoxP w.heap.size ⟨c0, c1, c2, c3, c4, .slice la n lcap⟩ w1 from ha)
 have HB := Lib.hid hb1
 clear hW ha hz1 hb1
 obtain ⟨t0, t1, t2, t3, t4, t5⟩ := HX.out.cells
 simp only at t0 t1 t2 t3 t4 t5
 go_wp2_with fail
 refine (RValid_any p _ w1 (HP.out.stays HB.out)).mono ?_
 rintro e w2 ⟨rfl, hb⟩
 have HB2 := Lib.hid (HB.out.trans (hb.mono HB.out.size))
 have HX2 := Lib.hid (HX.out.below hb)
 clear hb t0 t1 t2 t3 t4 t5 HX HB
 cases hval : valR p with
 | false =>
  have HF := Lib.hid (HMF.out hval)
  go_wp2_with fail
  go_ret
  exact ⟨by (rw [HF.out]; rfl), HB2.out⟩
 | true =>
  have HVP := Lib.hid (val_parts hval).1
  have HC := Lib.hid (HCN.out hval)
  have HT : Hid (T = true ↔ memR (L sb) 48 p 0 (L sb).length) := HMI.out.trans ⟨fun h => h.2, fun h => ⟨hval, h⟩⟩
  clear hval HCN HMI HMF
  go_upto_region 4 with fail
  generalize hW : World.alloc w2 _ = w3
  have HO1 := Lib.hid (show BlkB w3 w2.heap.size (sb.size + 1) (fun _ => False) from hW ▸ blk_made w2 (sb.size + 1))
  have hb3 : Below w2.heap.size w2 w3 := hW ▸ (Below.refl _ _).alloc (Nat.le_refl _) _
  have HB3 := Lib.hid (HB2.out.trans (hb3.mono HB2.out.size))
  have HX3 := Lib.hid (HX2.out.below hb3)
  clear hW hb3 hmk
  obtain ⟨x0, hx0⟩ : ∃ x, w3.cell? ⟨w2.heap.size, 0, none⟩ = some x := ⟨_, HO1.out.cell (by omega)⟩
  have hfo := HO1.out.frozen 0
  have h0m : (0 : Int) < (sb.size : Int) + 1 := by omega
  go_upto_region 5 with fail
  generalize hW : World.setCell w3 _ _ = w4
  have HO2 := Lib.hid (show BlkB w4 w2.heap.size (sb.size + 1) (fun j => j = 0) from hW ▸ HO1.out.put 0 true _ (fun j _ hne => ⟨fun h => absurd h hne, fun h => h.elim⟩) ⟨fun _ => rfl, fun _ => rfl⟩)
  have HZ2 := Lib.hid HB2.out.size
  have HB4 : Hid (Below w.heap.size w w4) := hW ▸ HB3.out.setCell (p := ⟨w2.heap.size, 0, none⟩) HZ2.out _
  have HX4 : Hid (BoxP w.heap.size ⟨c0, c1, c2, c3, c4, .slice la n lcap⟩ w4) := by
   have h1 := Below.heap_setCell w3 ⟨w2.heap.size, 0, none⟩ (.bool true) w.heap.size (by have := HX2.out.lt; show w.heap.size ≠ w2.heap.size; omega)
   rw [hW] at h1
   exact h1.trans HX3.out
  clear hW hx0 hfo HO1 HB3 HX3 HX2
  obtain ⟨t0, t1, t2, t3, t4, t5⟩ := HX4.out.cells
  simp only at t0 t1 t2 t3 t4 t5
  have HLN : Hid ((L sb).length = sb.size) := L_len sb
  have HSP := Lib.hid (spots_all (L sb) (by have := HLN.out; omega) 48 p ⟨c0, c1, c2, c3, c4, .slice la n lcap⟩ w4 (fun _ => none) (HP.out.stays HB4.out) HVP.out HC.out ⟨fun r q h => by cases h⟩)
  have hnn : ((L sb).length : Int) = (sb.size : Int) := by rw [HLN.out]
  rw [hnn] at HSP
  clear hnn
  go_wp2_with fail
  refine HSP.out.mono ?_
  rintro e w5 ⟨g, Rb, rfl, hext, hmo, hsp, hb5⟩
  have HE5 := Lib.hid hext
  have HB5 := Lib.hid hb5
  have HO5 := Lib.hid (HO2.out.stay hb5)
  have HRB : Hid (Rb w2.heap.size = none) := hext _ HO2.out.lt
  have HEN := Lib.hid (ends_every (L sb) sb rfl (by have := HLN.out; omega) Rb 48 (Nat.le_refl _) (fun _ => False) p g (fun j => j = 0) w2.heap.size w5 (fun x h => h.elim) (hsp.mono (fun x h _ => h.2) (fun _ _ => rfl)) HVP.out ⟨hmo, fun _ _ _ _ _ _ h => h⟩ HRB.out (fun h => h) (by rw [HLN.out]; exact HO5.out))
  simp only [svB, HLN.out, ptrS] at HEN
  simp only [ptrS]
  clear hext hmo hsp hb5 HSP t0 t1 t2 t3 t4 t5
  go_wp2_with fail
  refine HEN.out.mono ?_
  rintro e w6 ⟨a, rfl, -, -, hbl, -, hkm⟩
  have HB6 : Hid (Below w.heap.size w w6) := by
   have h4 := HB4.out
   have h5 := HB5.out
   refine ⟨hkm.os.trans (h5.os.trans h4.os), hkm.tape.trans (h5.tape.trans h4.tape), hkm.output.trans (h5.output.trans h4.output), Nat.le_trans h4.size (Nat.le_trans h5.size hkm.size), fun k hk => ?_⟩
   have k4 : k < w4.heap.size := Nat.lt_of_lt_of_le hk h4.size
   have k5 : k < w5.heap.size := Nat.lt_of_lt_of_le k4 h5.size
   exact (hkm.block k k5 (HE5.out k k4)).trans ((h5.block k k4).trans (h4.block k hk))
  have hcl := hbl.cell (j := sb.size) (by have := HLN.out; omega)
  have hT : bvB (img sb.size (fun j => j = 0) (memR (L sb) 48 p)) sb.size = .bool T := by
   have h := HT.out
   rw [HLN.out] at h
   cases hT : T with
   | true => exact bvB_true ⟨0, Nat.zero_le _, rfl, h.1 hT⟩
   | false => exact bvB_false (fun ⟨i, _, h0, hm⟩ => by cases h0; rw [hT] at h; exact absurd (h.2 hm) (by decide))
  rw [hT] at hcl
  have hii : (sb.size : Int) < (sb.size : Int) + 1 := by omega
  clear hbl hkm hT HEN
  simp only [svB, HLN.out]
  go_wp2_with fail
  go_ret
  exact ⟨rfl, HB6.out⟩
end Go.Proofs.YtpkecepelcppiaaGreatDoor

namespace Go.Proofs.YtpkecepelcppiaaGreatDoor
open Go.RowKit Go.Shelf
set_option maxHeartbeats 4000000
set_option maxRecDepth 100000

def srcB (n : Nat) : ByteArray := ⟨((srcF[n]?).getD []).toArray⟩
theorem fText_0 (w : World) : Calls Tryz.prog 45 #[.int .i64 0] w fun e w' => e = .returned (.string (srcB 0)) ∧ w = w' := by
 go_enter Tryz.func45, Tryz.ntmps45
 go_wp2_with fail
 go_ret
 exact ⟨rfl, rfl⟩
theorem fText_1 (w : World) : Calls Tryz.prog 45 #[.int .i64 1] w fun e w' => e = .returned (.string (srcB 1)) ∧ w = w' := by
 go_enter Tryz.func45, Tryz.ntmps45
 go_wp2_with fail
 go_ret
 exact ⟨rfl, rfl⟩
theorem fText_2 (w : World) : Calls Tryz.prog 45 #[.int .i64 2] w fun e w' => e = .returned (.string (srcB 2)) ∧ w = w' := by
 go_enter Tryz.func45, Tryz.ntmps45
 go_wp2_with fail
 go_ret
 exact ⟨rfl, rfl⟩
theorem fText_3 (w : World) : Calls Tryz.prog 45 #[.int .i64 3] w fun e w' => e = .returned (.string (srcB 3)) ∧ w = w' := by
 go_enter Tryz.func45, Tryz.ntmps45
 go_wp2_with fail
 go_ret
 exact ⟨rfl, rfl⟩
theorem fText_4 (w : World) : Calls Tryz.prog 45 #[.int .i64 4] w fun e w' => e = .returned (.string (srcB 4)) ∧ w = w' := by
 go_enter Tryz.func45, Tryz.ntmps45
 go_wp2_with fail
 go_ret
 exact ⟨rfl, rfl⟩
theorem fText_5 (w : World) : Calls Tryz.prog 45 #[.int .i64 5] w fun e w' => e = .returned (.string (srcB 5)) ∧ w = w' := by
 go_enter Tryz.func45, Tryz.ntmps45
 go_wp2_with fail
 go_ret
 exact ⟨rfl, rfl⟩
theorem fText_6 (w : World) : Calls Tryz.prog 45 #[.int .i64 6] w fun e w' => e = .returned (.string (srcB 6)) ∧ w = w' := by
 go_enter Tryz.func45, Tryz.ntmps45
 go_wp2_with fail
 go_ret
 exact ⟨rfl, rfl⟩
theorem fText_7 (w : World) : Calls Tryz.prog 45 #[.int .i64 7] w fun e w' => e = .returned (.string (srcB 7)) ∧ w = w' := by
 go_enter Tryz.func45, Tryz.ntmps45
 go_wp2_with fail
 go_ret
 exact ⟨rfl, rfl⟩
theorem fText_8 (w : World) : Calls Tryz.prog 45 #[.int .i64 8] w fun e w' => e = .returned (.string (srcB 8)) ∧ w = w' := by
 go_enter Tryz.func45, Tryz.ntmps45
 go_wp2_with fail
 go_ret
 exact ⟨rfl, rfl⟩
theorem fText_9 (w : World) : Calls Tryz.prog 45 #[.int .i64 9] w fun e w' => e = .returned (.string (srcB 9)) ∧ w = w' := by
 go_enter Tryz.func45, Tryz.ntmps45
 go_wp2_with fail
 go_ret
 exact ⟨rfl, rfl⟩
theorem fText_10 (w : World) : Calls Tryz.prog 45 #[.int .i64 10] w fun e w' => e = .returned (.string (srcB 10)) ∧ w = w' := by
 go_enter Tryz.func45, Tryz.ntmps45
 go_wp2_with fail
 go_ret
 exact ⟨rfl, rfl⟩
theorem fText_11 (w : World) : Calls Tryz.prog 45 #[.int .i64 11] w fun e w' => e = .returned (.string (srcB 11)) ∧ w = w' := by
 go_enter Tryz.func45, Tryz.ntmps45
 go_wp2_with fail
 go_ret
 exact ⟨rfl, rfl⟩
theorem fText_any (n : Nat) (hn : n < 12) (w : World) : Calls Tryz.prog 45 #[.int .i64 (n : Int)] w fun e w' => e = .returned (.string (srcB n)) ∧ w = w' := by
 match n, hn with
 | 0, _ => exact fText_0 w
 | 1, _ => exact fText_1 w
 | 2, _ => exact fText_2 w
 | 3, _ => exact fText_3 w
 | 4, _ => exact fText_4 w
 | 5, _ => exact fText_5 w
 | 6, _ => exact fText_6 w
 | 7, _ => exact fText_7 w
 | 8, _ => exact fText_8 w
 | 9, _ => exact fText_9 w
 | 10, _ => exact fText_10 w
 | 11, _ => exact fText_11 w
def PatO (O : Option RX) (w : World) (e : Ending) (w' : World) : Prop :=
 ∃ c, e = .returned (.tuple #[aggP c, .int .i64 (match O with | some _ => 0 | none => 7)]) ∧ RdP w' c (gotP O) ∧ Below w.heap.size w w'
theorem fSource_any (s : ByteArray) (w : World) : Calls Tryz.prog 47 #[.string s] w fun e w' => e = .returned (.string ⟨(srcOf (L s)).toArray⟩) ∧ w = w' := by
 by_cases h0 : L s = [98, 97, 115, 101, 54, 52]
 ·have t0 : (s.toList == [98, 97, 115, 101, 54, 52]) = true := by rw [toList_L, h0]; exact beq_self_eq_true _
  have HF : Hid (srcOf (L s) = (srcF[0]?).getD []) := by unfold Hid; rw [h0]; rfl
  clear h0
  go_enter Tryz.func47, Tryz.ntmps47
  go_wp2_with fail
  go_ret
  rw [HF.out]
  exact ⟨rfl, rfl⟩
 have t0 : (s.toList == [98, 97, 115, 101, 54, 52]) = false := by rw [toList_L]; exact beq_false_of_ne h0
 by_cases h1 : L s = [100, 97, 116, 101]
 ·have t1 : (s.toList == [100, 97, 116, 101]) = true := by rw [toList_L, h1]; exact beq_self_eq_true _
  have HF : Hid (srcOf (L s) = (srcF[1]?).getD []) := by unfold Hid; rw [h1]; rfl
  clear h1
  go_enter Tryz.func47, Tryz.ntmps47
  go_wp2_with fail
  go_ret
  rw [HF.out]
  exact ⟨rfl, rfl⟩
 have t1 : (s.toList == [100, 97, 116, 101]) = false := by rw [toList_L]; exact beq_false_of_ne h1
 by_cases h2 : L s = [100, 97, 116, 101, 116, 105, 109, 101]
 ·have t2 : (s.toList == [100, 97, 116, 101, 116, 105, 109, 101]) = true := by rw [toList_L, h2]; exact beq_self_eq_true _
  have HF : Hid (srcOf (L s) = (srcF[2]?).getD []) := by unfold Hid; rw [h2]; rfl
  clear h2
  go_enter Tryz.func47, Tryz.ntmps47
  go_wp2_with fail
  go_ret
  rw [HF.out]
  exact ⟨rfl, rfl⟩
 have t2 : (s.toList == [100, 97, 116, 101, 116, 105, 109, 101]) = false := by rw [toList_L]; exact beq_false_of_ne h2
 by_cases h3 : L s = [104, 101, 120]
 ·have t3 : (s.toList == [104, 101, 120]) = true := by rw [toList_L, h3]; exact beq_self_eq_true _
  have HF : Hid (srcOf (L s) = (srcF[3]?).getD []) := by unfold Hid; rw [h3]; rfl
  clear h3
  go_enter Tryz.func47, Tryz.ntmps47
  go_wp2_with fail
  go_ret
  rw [HF.out]
  exact ⟨rfl, rfl⟩
 have t3 : (s.toList == [104, 101, 120]) = false := by rw [toList_L]; exact beq_false_of_ne h3
 by_cases h4 : L s = [105, 110, 115, 116, 97, 110, 116]
 ·have t4 : (s.toList == [105, 110, 115, 116, 97, 110, 116]) = true := by rw [toList_L, h4]; exact beq_self_eq_true _
  have HF : Hid (srcOf (L s) = (srcF[4]?).getD []) := by unfold Hid; rw [h4]; rfl
  clear h4
  go_enter Tryz.func47, Tryz.ntmps47
  go_wp2_with fail
  go_ret
  rw [HF.out]
  exact ⟨rfl, rfl⟩
 have t4 : (s.toList == [105, 110, 115, 116, 97, 110, 116]) = false := by rw [toList_L]; exact beq_false_of_ne h4
 by_cases h5 : L s = [105, 110, 116, 101, 103, 101, 114]
 ·have t5 : (s.toList == [105, 110, 116, 101, 103, 101, 114]) = true := by rw [toList_L, h5]; exact beq_self_eq_true _
  have HF : Hid (srcOf (L s) = (srcF[5]?).getD []) := by unfold Hid; rw [h5]; rfl
  clear h5
  go_enter Tryz.func47, Tryz.ntmps47
  go_wp2_with fail
  go_ret
  rw [HF.out]
  exact ⟨rfl, rfl⟩
 have t5 : (s.toList == [105, 110, 116, 101, 103, 101, 114]) = false := by rw [toList_L]; exact beq_false_of_ne h5
 by_cases h6 : L s = [105, 112, 118, 52]
 ·have t6 : (s.toList == [105, 112, 118, 52]) = true := by rw [toList_L, h6]; exact beq_self_eq_true _
  have HF : Hid (srcOf (L s) = (srcF[6]?).getD []) := by unfold Hid; rw [h6]; rfl
  clear h6
  go_enter Tryz.func47, Tryz.ntmps47
  go_wp2_with fail
  go_ret
  rw [HF.out]
  exact ⟨rfl, rfl⟩
 have t6 : (s.toList == [105, 112, 118, 52]) = false := by rw [toList_L]; exact beq_false_of_ne h6
 by_cases h7 : L s = [110, 97, 109, 101]
 ·have t7 : (s.toList == [110, 97, 109, 101]) = true := by rw [toList_L, h7]; exact beq_self_eq_true _
  have HF : Hid (srcOf (L s) = (srcF[7]?).getD []) := by unfold Hid; rw [h7]; rfl
  clear h7
  go_enter Tryz.func47, Tryz.ntmps47
  go_wp2_with fail
  go_ret
  rw [HF.out]
  exact ⟨rfl, rfl⟩
 have t7 : (s.toList == [110, 97, 109, 101]) = false := by rw [toList_L]; exact beq_false_of_ne h7
 by_cases h8 : L s = [110, 117, 109, 98, 101, 114]
 ·have t8 : (s.toList == [110, 117, 109, 98, 101, 114]) = true := by rw [toList_L, h8]; exact beq_self_eq_true _
  have HF : Hid (srcOf (L s) = (srcF[8]?).getD []) := by unfold Hid; rw [h8]; rfl
  clear h8
  go_enter Tryz.func47, Tryz.ntmps47
  go_wp2_with fail
  go_ret
  rw [HF.out]
  exact ⟨rfl, rfl⟩
 have t8 : (s.toList == [110, 117, 109, 98, 101, 114]) = false := by rw [toList_L]; exact beq_false_of_ne h8
 by_cases h9 : L s = [112, 97, 116, 104]
 ·have t9 : (s.toList == [112, 97, 116, 104]) = true := by rw [toList_L, h9]; exact beq_self_eq_true _
  have HF : Hid (srcOf (L s) = (srcF[9]?).getD []) := by unfold Hid; rw [h9]; rfl
  clear h9
  go_enter Tryz.func47, Tryz.ntmps47
  go_wp2_with fail
  go_ret
  rw [HF.out]
  exact ⟨rfl, rfl⟩
 have t9 : (s.toList == [112, 97, 116, 104]) = false := by rw [toList_L]; exact beq_false_of_ne h9
 by_cases h10 : L s = [116, 105, 109, 101]
 ·have t10 : (s.toList == [116, 105, 109, 101]) = true := by rw [toList_L, h10]; exact beq_self_eq_true _
  have HF : Hid (srcOf (L s) = (srcF[10]?).getD []) := by unfold Hid; rw [h10]; rfl
  clear h10
  go_enter Tryz.func47, Tryz.ntmps47
  go_wp2_with fail
  go_ret
  rw [HF.out]
  exact ⟨rfl, rfl⟩
 have t10 : (s.toList == [116, 105, 109, 101]) = false := by rw [toList_L]; exact beq_false_of_ne h10
 by_cases h11 : L s = [117, 117, 105, 100]
 ·have t11 : (s.toList == [117, 117, 105, 100]) = true := by rw [toList_L, h11]; exact beq_self_eq_true _
  have HF : Hid (srcOf (L s) = (srcF[11]?).getD []) := by unfold Hid; rw [h11]; rfl
  clear h11
  go_enter Tryz.func47, Tryz.ntmps47
  go_wp2_with fail
  go_ret
  rw [HF.out]
  exact ⟨rfl, rfl⟩
 have t11 : (s.toList == [117, 117, 105, 100]) = false := by rw [toList_L]; exact beq_false_of_ne h11
 have HF : Hid (srcOf (L s) = []) := (src_empty (L s)).2 (by
  rw [num_none (L s) (fun i hi => by
   match i, hi with
   | 0, _ => exact fun h => h0 h.symm
   | 1, _ => exact fun h => h1 h.symm
   | 2, _ => exact fun h => h2 h.symm
   | 3, _ => exact fun h => h3 h.symm
   | 4, _ => exact fun h => h4 h.symm
   | 5, _ => exact fun h => h5 h.symm
   | 6, _ => exact fun h => h6 h.symm
   | 7, _ => exact fun h => h7 h.symm
   | 8, _ => exact fun h => h8 h.symm
   | 9, _ => exact fun h => h9 h.symm
   | 10, _ => exact fun h => h10 h.symm
   | 11, _ => exact fun h => h11 h.symm)]
  omega)
 clear h0 h1 h2 h3 h4 h5 h6 h7 h8 h9 h10 h11
 go_enter Tryz.func47, Tryz.ntmps47
 go_wp2_with fail
 go_ret
 rw [HF.out]
 exact ⟨rfl, rfl⟩
end Go.Proofs.YtpkecepelcppiaaGreatDoor
