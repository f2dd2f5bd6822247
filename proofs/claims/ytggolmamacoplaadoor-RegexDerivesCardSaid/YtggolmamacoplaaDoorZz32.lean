/- (*datakitref15.spot).ends walked, operator by operator; printed by gen_rzx.py. Conditions: strings of at most 10^6 bytes. -/
import Derived.Test.YtggolmamacoplaaDoorZz31
namespace Go.Proofs.YtggolmamacoplaaDoor
open Go.RowKit Go.Shelf
set_option maxHeartbeats 4000000
set_option maxRecDepth 100000

/-- A row that tells G, in a world that the matcher has come to. -/
structure EnS (s : List UInt8) (Rb : Nat → Option RX) (Z : Nat → Prop) (w wr : World) (a : Nat) (G : Nat → Prop) : Prop where
  rb : Rb a = none
  nz : ¬ Z a
  blk : BlkB wr a (s.length + 1) G
  memo : MemoZ s Rb Z wr
  keep : KeepM Rb w wr
theorem EnS.ret {s : List UInt8} {Rb : Nat → Option RX} {Z : Nat → Prop} {w wr : World} {a : Nat} {G : Nat → Prop} (h : EnS s Rb Z w wr a G) : RetM s Rb Z G w (.returned (svB a (s.length + 1))) wr := ⟨a, rfl, h.rb, h.nz, h.blk, h.memo, h.keep⟩
theorem EnS.congr {s : List UInt8} {Rb : Nat → Option RX} {Z : Nat → Prop} {w wr : World} {a : Nat} {G H : Nat → Prop} (h : EnS s Rb Z w wr a G) (e : ∀ j, j < s.length + 1 → (G j ↔ H j)) : EnS s Rb Z w wr a H := ⟨h.rb, h.nz, h.blk.congr e, h.memo, h.keep⟩
theorem EnS.stay {s : List UInt8} {Rb : Nat → Option RX} {Z : Nat → Prop} {w wr wx : World} {a : Nat} {G : Nat → Prop} (h : EnS s Rb Z w wr a G) (hb : Below wr.heap.size wr wx) : EnS s Rb Z w wx a G := ⟨h.rb, h.nz, h.blk.stay hb, h.memo.stay hb, h.keep.trans (KeepM.below hb)⟩
/-- A part has been asked. -/
theorem EnS.call {s : List UInt8} {Rb : Nat → Option RX} {Z : Nat → Prop} {w wr w6 : World} {a : Nat} {G H : Nat → Prop} {e : Ending} (h : EnS s Rb Z w wr a G) (hc : RetM s Rb Z H wr e w6) : ∃ b, e = .returned (svB b (s.length + 1)) ∧ EnS s Rb Z w w6 a G ∧ EnS s Rb Z w w6 b H := by
  obtain ⟨b, rfl, h1, h2, h3, h4, h5⟩ := hc
  exact ⟨b, rfl, ⟨h.rb, h.nz, h.blk.keepM h.rb h5, h4, h.keep.trans h5⟩, ⟨h1, h2, h3, h4, h.keep.trans h5⟩⟩
/-- Two rows have been joined in a new one. -/
theorem EnS.join {s : List UInt8} {Rb : Nat → Option RX} {Z : Nat → Prop} {w wr wx : World} {a g : Nat} {G H : Nat → Prop} (h : EnS s Rb Z w wr a G) (hZ : ∀ x, Z x → x < w.heap.size) (hg : wr.heap.size ≤ g) (hb : BlkB wx g (s.length + 1) H) (hbe : Below wr.heap.size wr wx) : EnS s Rb Z w wx g H :=
  ⟨h.memo.ok.new hg, fun hz => by have := hZ g hz; have := h.keep.size; omega, hb, h.memo.stay hbe, h.keep.trans (KeepM.below hbe)⟩
theorem ends_m0 (s : List UInt8) (sb : ByteArray) (hL : L sb = s) (hsz : s.length ≤ 1000000) (Rb : Nat → Option RX) (d : Nat) (hd : d + 1 ≤ 48) (Z : Nat → Prop) (lo hh mn mx : Int) (l : List RX) (g : Nat) (F : Nat → Prop) (a : Nat) (w : World) (hZ : ∀ x, Z x → x < w.heap.size) (hsp : SpR (s.length + 1) Rb w g (.mk 0 lo hh mn mx l)) (hsn : sndR (d + 1) (.mk 0 lo hh mn mx l) = true) (hmz : MemoZ s Rb Z w) (hna : Rb a = none) (hnz : ¬ Z a) (hbl : BlkB w a (s.length + 1) F) :
    Calls Tryd.prog 35 #[ptrS g, .string sb, svB a (s.length + 1)] w (RetM s Rb Z (img s.length F (memR s 48 (.mk 0 lo hh mn mx l))) w) := by
  have hls : s.length = sb.size := by rw [← hL]; exact L_len sb
  have hkd := (snd_node hsn).2
  have HFW := Lib.hid (form_ways (snd_node hsn).1)
  have HSP := Lib.hid hsp
  have HSNX := Lib.hid hsn
  obtain ⟨ca, av, rv, gs, hbx, hng, hsl, hnav, hkids, -⟩ := hsp.open
  obtain ⟨aa, acap, rfl, al1, al2, al3, al4⟩ := hsl
  have hml : (l.length : Int) ≤ 9223372036854775807 := by simp only [maxLen] at al2; omega
  have HZ := Lib.hid hZ
  have HBX := Lib.hid (And.intro hbx hng)
  have HAA := Lib.hid al4
  have HNA := Lib.hid hnav
  have HKD := Lib.hid hkids
  have HSD := Lib.hid hkd
  have HS47 : Hid (∀ q ∈ l, sndR 47 q = true) := fun q hq => snd_le (by omega) (hkd q hq)
  have HLS := Lib.hid hls
  have HL := Lib.hid hL

  have HF := Lib.hid (show EnS s Rb Z w w a F from ⟨hna, hnz, hbl, hmz, KeepM.refl _ _⟩)
  have hmk := run_make_row' (P := Tryd.prog) 50 4 (.bool false) 1 Tryd.underlying50 bool_infoZ rfl .i64 .i64 (sb.size + 1) (by omega) (by omega)
  rw [show ((sb.size + 1 : Nat) : Int) = (sb.size : Int) + 1 by omega] at hmk
  have hsbi : (sb.size : Int) ≤ 1000000 := by omega
  obtain ⟨t0, t1, t2, t3, t4, t6, t7⟩ := hbx.cells
  simp only at t0 t1 t2 t3 t4 t6 t7
  clear hZ hsp hsn hmz hna hnz hbl hbx hng al1 al2 al3 al4 hnav hkids hkd  hls hL hsz
  simp only [ptrS, svB, HLS.out]
  go_enter Tryd.func35, Tryd.ntmps35
  go_upto_region 2 with fail
  generalize hW : World.alloc w _ = w1
  have hb1 : Below w.heap.size w w1 := hW ▸ (Below.refl _ _).alloc (Nat.le_refl _) _
  have HO1 := Lib.hid (show EnS s Rb Z w w1 w.heap.size (fun _ => False) from (HF.out).join HZ.out (Nat.le_refl _) (by rw [HLS.out]; exact hW ▸ blk_made w (sb.size + 1)) hb1)
  have HF1 := Lib.hid (HF.out.stay hb1)
  clear hW hb1 hmk t0 t1 t2 t3 t4 t6 t7
  obtain ⟨t0, t1, t2, t3, t4, t6, t7⟩ := (HBX.out.1.keepM HBX.out.2 HO1.out.keep).cells
  simp only at t0 t1 t2 t3 t4 t6 t7
  have HR := Lib.hid (HO1.out.congr (H := img s.length F (memR s 48 (.mk 0 lo hh mn mx l))) (fun j _ => ⟨fun h => h.elim, fun ⟨_, _, _, h⟩ => mem_op0 s 48 _ rfl _ _ h⟩))
  go_wp2_with fail
  go_ret
  have h := HR.out.ret
  rw [HLS.out] at h
  exact h
theorem ends_m1 (s : List UInt8) (sb : ByteArray) (hL : L sb = s) (hsz : s.length ≤ 1000000) (Rb : Nat → Option RX) (d : Nat) (hd : d + 1 ≤ 48) (Z : Nat → Prop) (lo hh mn mx : Int) (l : List RX) (g : Nat) (F : Nat → Prop) (a : Nat) (w : World) (hZ : ∀ x, Z x → x < w.heap.size) (hsp : SpR (s.length + 1) Rb w g (.mk 1 lo hh mn mx l)) (hsn : sndR (d + 1) (.mk 1 lo hh mn mx l) = true) (hmz : MemoZ s Rb Z w) (hna : Rb a = none) (hnz : ¬ Z a) (hbl : BlkB w a (s.length + 1) F) :
    Calls Tryd.prog 35 #[ptrS g, .string sb, svB a (s.length + 1)] w (RetM s Rb Z (img s.length F (memR s 48 (.mk 1 lo hh mn mx l))) w) := by
  have hls : s.length = sb.size := by rw [← hL]; exact L_len sb
  have hkd := (snd_node hsn).2
  have HFW := Lib.hid (form_ways (snd_node hsn).1)
  have HSP := Lib.hid hsp
  have HSNX := Lib.hid hsn
  obtain ⟨ca, av, rv, gs, hbx, hng, hsl, hnav, hkids, -⟩ := hsp.open
  obtain ⟨aa, acap, rfl, al1, al2, al3, al4⟩ := hsl
  have hml : (l.length : Int) ≤ 9223372036854775807 := by simp only [maxLen] at al2; omega
  have HZ := Lib.hid hZ
  have HBX := Lib.hid (And.intro hbx hng)
  have HAA := Lib.hid al4
  have HNA := Lib.hid hnav
  have HKD := Lib.hid hkids
  have HSD := Lib.hid hkd
  have HS47 : Hid (∀ q ∈ l, sndR 47 q = true) := fun q hq => snd_le (by omega) (hkd q hq)
  have HLS := Lib.hid hls
  have HL := Lib.hid hL

  have HF := Lib.hid (show EnS s Rb Z w w a F from ⟨hna, hnz, hbl, hmz, KeepM.refl _ _⟩)
  have hmk := run_make_row' (P := Tryd.prog) 50 4 (.bool false) 1 Tryd.underlying50 bool_infoZ rfl .i64 .i64 (sb.size + 1) (by omega) (by omega)
  rw [show ((sb.size + 1 : Nat) : Int) = (sb.size : Int) + 1 by omega] at hmk
  have hsbi : (sb.size : Int) ≤ 1000000 := by omega
  obtain ⟨t0, t1, t2, t3, t4, t6, t7⟩ := hbx.cells
  simp only at t0 t1 t2 t3 t4 t6 t7
  clear hZ hsp hsn hmz hna hnz hbl hbx hng al1 al2 al3 al4 hnav hkids hkd  hls hL hsz
  simp only [ptrS, svB, HLS.out]
  go_enter Tryd.func35, Tryd.ntmps35
  go_upto_region 2 with fail
  generalize hW : World.alloc w _ = w1
  have hb1 : Below w.heap.size w w1 := hW ▸ (Below.refl _ _).alloc (Nat.le_refl _) _
  have HO1 := Lib.hid (show EnS s Rb Z w w1 w.heap.size (fun _ => False) from (HF.out).join HZ.out (Nat.le_refl _) (by rw [HLS.out]; exact hW ▸ blk_made w (sb.size + 1)) hb1)
  have HF1 := Lib.hid (HF.out.stay hb1)
  clear hW hb1 hmk t0 t1 t2 t3 t4 t6 t7
  obtain ⟨t0, t1, t2, t3, t4, t6, t7⟩ := (HBX.out.1.keepM HBX.out.2 HO1.out.keep).cells
  simp only at t0 t1 t2 t3 t4 t6 t7
  have HR := Lib.hid (HF1.out.congr (H := img s.length F (memR s 48 (.mk 1 lo hh mn mx l))) (fun j hj => ⟨fun h => ⟨j, by omega, h, (mem_op1 s 47 _ rfl j j).2 rfl⟩, fun ⟨i, _, h, hm⟩ => by rw [(mem_op1 s 47 _ rfl i j).1 hm] at h; exact h⟩))
  go_wp2_with fail
  go_ret
  have h := HR.out.ret
  rw [HLS.out] at h
  exact h
theorem ends_m3 (s : List UInt8) (sb : ByteArray) (hL : L sb = s) (hsz : s.length ≤ 1000000) (Rb : Nat → Option RX) (d : Nat) (hd : d + 1 ≤ 48) (IH0 : EndM s sb Rb d) (Z : Nat → Prop) (lo hh mn mx : Int) (l : List RX) (g : Nat) (F : Nat → Prop) (a : Nat) (w : World) (hZ : ∀ x, Z x → x < w.heap.size) (hsp : SpR (s.length + 1) Rb w g (.mk 3 lo hh mn mx l)) (hsn : sndR (d + 1) (.mk 3 lo hh mn mx l) = true) (hmz : MemoZ s Rb Z w) (hna : Rb a = none) (hnz : ¬ Z a) (hbl : BlkB w a (s.length + 1) F) :
    Calls Tryd.prog 35 #[ptrS g, .string sb, svB a (s.length + 1)] w (RetM s Rb Z (img s.length F (memR s 48 (.mk 3 lo hh mn mx l))) w) := by
  have hls : s.length = sb.size := by rw [← hL]; exact L_len sb
  have hkd := (snd_node hsn).2
  have HFW := Lib.hid (form_ways (snd_node hsn).1)
  have HSP := Lib.hid hsp
  have HSNX := Lib.hid hsn
  obtain ⟨ca, av, rv, gs, hbx, hng, hsl, hnav, hkids, -⟩ := hsp.open
  obtain ⟨aa, acap, rfl, al1, al2, al3, al4⟩ := hsl
  have hml : (l.length : Int) ≤ 9223372036854775807 := by simp only [maxLen] at al2; omega
  have HZ := Lib.hid hZ
  have HBX := Lib.hid (And.intro hbx hng)
  have HAA := Lib.hid al4
  have HNA := Lib.hid hnav
  have HKD := Lib.hid hkids
  have HSD := Lib.hid hkd
  have HS47 : Hid (∀ q ∈ l, sndR 47 q = true) := fun q hq => snd_le (by omega) (hkd q hq)
  have HLS := Lib.hid hls
  have HL := Lib.hid hL
  have IH := Lib.hid IH0
  have HF := Lib.hid (show EnS s Rb Z w w a F from ⟨hna, hnz, hbl, hmz, KeepM.refl _ _⟩)
  have hmk := run_make_row' (P := Tryd.prog) 50 4 (.bool false) 1 Tryd.underlying50 bool_infoZ rfl .i64 .i64 (sb.size + 1) (by omega) (by omega)
  rw [show ((sb.size + 1 : Nat) : Int) = (sb.size : Int) + 1 by omega] at hmk
  have hsbi : (sb.size : Int) ≤ 1000000 := by omega
  obtain ⟨t0, t1, t2, t3, t4, t6, t7⟩ := hbx.cells
  simp only at t0 t1 t2 t3 t4 t6 t7
  clear hZ hsp hsn hmz hna hnz hbl hbx hng al1 al2 al3 al4 hnav hkids hkd IH0 hls hL hsz
  simp only [ptrS, svB, HLS.out]
  go_enter Tryd.func35, Tryd.ntmps35
  go_upto_region 2 with fail
  generalize hW : World.alloc w _ = w1
  have hb1 : Below w.heap.size w w1 := hW ▸ (Below.refl _ _).alloc (Nat.le_refl _) _
  have HO1 := Lib.hid (show EnS s Rb Z w w1 w.heap.size (fun _ => False) from (HF.out).join HZ.out (Nat.le_refl _) (by rw [HLS.out]; exact hW ▸ blk_made w (sb.size + 1)) hb1)
  have HF1 := Lib.hid (HF.out.stay hb1)
  clear hW hb1 hmk t0 t1 t2 t3 t4 t6 t7
  obtain ⟨t0, t1, t2, t3, t4, t6, t7⟩ := (HBX.out.1.keepM HBX.out.2 HO1.out.keep).cells
  simp only at t0 t1 t2 t3 t4 t6 t7
  have HX0 := Lib.hid (HF1.out.congr (H := img s.length F (catM ((l.take 0).map (memR s 48)))) (fun j hj => ⟨fun h => ⟨j, by omega, h, rfl⟩, fun ⟨i, _, h, hm⟩ => by obtain rfl : i = j := hm; exact h⟩))
  go_wp2_with fail
  go_loopw [7, 9] (fun ov nv wr => ∃ (k b : Nat), k ≤ l.length ∧ nv = .int .i64 (k : Int) ∧ ov = .slice (some ⟨b, 0, none⟩) (sb.size + 1) (sb.size + 1) ∧ Hid (EnS s Rb Z w wr b (img s.length F (catM ((l.take k).map (memR s 48)))))) (fun _ nv _ => l.length - (intOf nv).toNat)
  case atStart => exact ⟨0, a, Nat.zero_le _, rfl, rfl, HX0.out⟩
  case round =>
    clear HX0 HO1 HF1 t0 t1 t2 t3 t4 t6 t7
    obtain ⟨k, b, hk, rfl, rfl, HX⟩ := hrel
    obtain ⟨t0, t1, t2, t3, t4, t6, t7⟩ := (HBX.out.1.keepM HBX.out.2 HX.out.keep).cells
    simp only at t0 t1 t2 t3 t4 t6 t7
    by_cases hlt : k < l.length
    case neg =>
      have hge : ¬ (k : Int) < l.length := by omega
      have HR := Lib.hid (HX.out.congr (H := img s.length F (memR s 48 (.mk 3 lo hh mn mx l))) (fun j hj => by
        rw [List.take_of_length_le (by omega)]
        exact ⟨fun ⟨i, h1, h2, h3⟩ => ⟨i, h1, h2, (mm3 s lo hh mn mx l HS47.out i j).2 h3⟩, fun ⟨i, h1, h2, h3⟩ => ⟨i, h1, h2, (mm3 s lo hh mn mx l HS47.out i j).1 h3⟩⟩))
      clear hlt
      go_wp2_with fail
      go_ret
      have h := HR.out.ret
      rw [HLS.out] at h
      exact h
    case pos =>
      have hlti : (k : Int) < l.length := by omega
      obtain ⟨ga, oa, rfl, hga, hca⟩ := HAA.out (by omega)
      have hcp : wr.cell? ⟨ga, oa + k, none⟩ = some (.pointer (some ⟨gs k, 0, none⟩)) := by
        have h := hca k hlt 0 (by omega)
        rw [Nat.mul_one, Nat.add_zero] at h
        rw [HX.out.keep.cell hga (HNA.out ga oa _ _ rfl (by omega)), h]
        rfl
      have HKQ := Lib.hid ((HKD.out k hlt).keepM HX.out.keep)
      have HTS : Hid (∀ x ∈ l.take k, sndR 48 x = true) := fun x hx => snd_le (by omega) (HS47.out x (List.mem_of_mem_take hx))
      have HSQ := Lib.hid (HSD.out _ (List.getElem_mem hlt))
      have HTK := Lib.hid (List.take_succ_eq_append_getElem hlt)
      clear hca hga
      generalize l[k] = q at *
      have HCL := Lib.hid (IH.out Z q (gs k) _ b wr (fun x hx => Nat.lt_of_lt_of_le (HZ.out x hx) HX.out.keep.size) HKQ.out HSQ.out HX.out.memo HX.out.rb HX.out.nz HX.out.blk)
      simp only [HLS.out, svB, ptrS] at HCL
      go_wp2_with fail
      refine HCL.out.mono ?_
      rintro e w6 hret
      rw [← HLS.out] at hret
      obtain ⟨b2, rfl, -, h6⟩ := HX.out.call hret
      have HX6 := Lib.hid (h6.congr (fun j hj => (img_cat HTS.out j)))
      rw [← HTK.out] at HX6
      simp only [HLS.out, svB]
      clear hret h6 HCL HX HKQ HSQ t0 t1 t2 t3 t4 t6 t7 hcp
      go_wp2_with fail
      exact ⟨⟨k + 1, b2, by omega, by simp, rfl, HX6.out⟩, by simp [intOf]; omega⟩
theorem ends_m4 (s : List UInt8) (sb : ByteArray) (hL : L sb = s) (hsz : s.length ≤ 1000000) (Rb : Nat → Option RX) (d : Nat) (hd : d + 1 ≤ 48) (IH0 : EndM s sb Rb d) (Z : Nat → Prop) (lo hh mn mx : Int) (l : List RX) (g : Nat) (F : Nat → Prop) (a : Nat) (w : World) (hZ : ∀ x, Z x → x < w.heap.size) (hsp : SpR (s.length + 1) Rb w g (.mk 4 lo hh mn mx l)) (hsn : sndR (d + 1) (.mk 4 lo hh mn mx l) = true) (hmz : MemoZ s Rb Z w) (hna : Rb a = none) (hnz : ¬ Z a) (hbl : BlkB w a (s.length + 1) F) :
    Calls Tryd.prog 35 #[ptrS g, .string sb, svB a (s.length + 1)] w (RetM s Rb Z (img s.length F (memR s 48 (.mk 4 lo hh mn mx l))) w) := by
  have hls : s.length = sb.size := by rw [← hL]; exact L_len sb
  have hkd := (snd_node hsn).2
  have HFW := Lib.hid (form_ways (snd_node hsn).1)
  have HSP := Lib.hid hsp
  have HSNX := Lib.hid hsn
  obtain ⟨ca, av, rv, gs, hbx, hng, hsl, hnav, hkids, -⟩ := hsp.open
  obtain ⟨aa, acap, rfl, al1, al2, al3, al4⟩ := hsl
  have hml : (l.length : Int) ≤ 9223372036854775807 := by simp only [maxLen] at al2; omega
  have HZ := Lib.hid hZ
  have HBX := Lib.hid (And.intro hbx hng)
  have HAA := Lib.hid al4
  have HNA := Lib.hid hnav
  have HKD := Lib.hid hkids
  have HSD := Lib.hid hkd
  have HS47 : Hid (∀ q ∈ l, sndR 47 q = true) := fun q hq => snd_le (by omega) (hkd q hq)
  have HLS := Lib.hid hls
  have HL := Lib.hid hL
  have IH := Lib.hid IH0
  have HF := Lib.hid (show EnS s Rb Z w w a F from ⟨hna, hnz, hbl, hmz, KeepM.refl _ _⟩)
  have hmk := run_make_row' (P := Tryd.prog) 50 4 (.bool false) 1 Tryd.underlying50 bool_infoZ rfl .i64 .i64 (sb.size + 1) (by omega) (by omega)
  rw [show ((sb.size + 1 : Nat) : Int) = (sb.size : Int) + 1 by omega] at hmk
  have hsbi : (sb.size : Int) ≤ 1000000 := by omega
  obtain ⟨t0, t1, t2, t3, t4, t6, t7⟩ := hbx.cells
  simp only at t0 t1 t2 t3 t4 t6 t7
  clear hZ hsp hsn hmz hna hnz hbl hbx hng al1 al2 al3 al4 hnav hkids hkd IH0 hls hL hsz
  simp only [ptrS, svB, HLS.out]
  go_enter Tryd.func35, Tryd.ntmps35
  go_upto_region 2 with fail
  generalize hW : World.alloc w _ = w1
  have hb1 : Below w.heap.size w w1 := hW ▸ (Below.refl _ _).alloc (Nat.le_refl _) _
  have HO1 := Lib.hid (show EnS s Rb Z w w1 w.heap.size (fun _ => False) from (HF.out).join HZ.out (Nat.le_refl _) (by rw [HLS.out]; exact hW ▸ blk_made w (sb.size + 1)) hb1)
  have HF1 := Lib.hid (HF.out.stay hb1)
  clear hW hb1 hmk t0 t1 t2 t3 t4 t6 t7
  obtain ⟨t0, t1, t2, t3, t4, t6, t7⟩ := (HBX.out.1.keepM HBX.out.2 HO1.out.keep).cells
  simp only at t0 t1 t2 t3 t4 t6 t7
  have HX0 := Lib.hid (HO1.out.congr (H := fun j => ∃ q ∈ l.take 0, img s.length F (memR s 48 q) j) (fun j _ => ⟨fun h => h.elim, fun ⟨q, hq, _⟩ => by simp at hq⟩))
  go_wp2_with fail
  go_loopw [7, 10] (fun ov nv wr => ∃ (k b : Nat), k ≤ l.length ∧ nv = .int .i64 (k : Int) ∧ ov = .slice (some ⟨b, 0, none⟩) (sb.size + 1) (sb.size + 1) ∧ Hid (EnS s Rb Z w wr b (fun j => ∃ q ∈ l.take k, img s.length F (memR s 48 q) j))) (fun _ nv _ => l.length - (intOf nv).toNat)
  case atStart => exact ⟨0, w.heap.size, Nat.zero_le _, rfl, rfl, HX0.out⟩
  case round =>
    clear HX0 HO1 HF1 t0 t1 t2 t3 t4 t6 t7
    obtain ⟨k, b, hk, rfl, rfl, HX⟩ := hrel
    obtain ⟨t0, t1, t2, t3, t4, t6, t7⟩ := (HBX.out.1.keepM HBX.out.2 HX.out.keep).cells
    simp only at t0 t1 t2 t3 t4 t6 t7
    by_cases hlt : k < l.length
    case neg =>
      have hge : ¬ (k : Int) < l.length := by omega
      have HR := Lib.hid (HX.out.congr (H := img s.length F (memR s 48 (.mk 4 lo hh mn mx l))) (fun j hj => by
        rw [List.take_of_length_le (by omega)]
        exact ⟨fun ⟨q, hq, i, h1, h2, h3⟩ => ⟨i, h1, h2, (mm4 s lo hh mn mx l HS47.out i j).2 ⟨q, hq, h3⟩⟩, fun ⟨i, h1, h2, h3⟩ => by obtain ⟨q, hq, hm⟩ := (mm4 s lo hh mn mx l HS47.out i j).1 h3; exact ⟨q, hq, i, h1, h2, hm⟩⟩))
      clear hlt
      go_wp2_with fail
      go_ret
      have h := HR.out.ret
      rw [HLS.out] at h
      exact h
    case pos =>
      have hlti : (k : Int) < l.length := by omega
      obtain ⟨ga, oa, rfl, hga, hca⟩ := HAA.out (by omega)
      have hcp : wr.cell? ⟨ga, oa + k, none⟩ = some (.pointer (some ⟨gs k, 0, none⟩)) := by
        have h := hca k hlt 0 (by omega)
        rw [Nat.mul_one, Nat.add_zero] at h
        rw [HX.out.keep.cell hga (HNA.out ga oa _ _ rfl (by omega)), h]
        rfl
      have HKQ := Lib.hid ((HKD.out k hlt).keepM HX.out.keep)
      have HSQ := Lib.hid (HSD.out _ (List.getElem_mem hlt))
      have HTK := Lib.hid (List.take_succ_eq_append_getElem hlt)
      clear hca hga
      generalize l[k] = q at *
      have HCL := Lib.hid (IH.out Z q (gs k) F a wr (fun x hx => Nat.lt_of_lt_of_le (HZ.out x hx) HX.out.keep.size) HKQ.out HSQ.out HX.out.memo HF.out.rb HF.out.nz (HF.out.blk.keepM HF.out.rb HX.out.keep))
      simp only [HLS.out, svB, ptrS] at HCL
      go_wp2_with fail
      refine HCL.out.mono ?_
      rintro e w6 hret
      rw [← HLS.out] at hret
      obtain ⟨b2, rfl, h5, h6⟩ := HX.out.call hret
      have H5 := Lib.hid h5
      have H6 := Lib.hid h6
      have HEI := Lib.hid (either_any (s.length + 1) b b2 _ _ w6 (by have := HLS.out; omega) h5.blk h6.blk)
      simp only [HLS.out, svB] at HEI
      simp only [HLS.out, svB]
      clear hret h5 h6 HCL HX HKQ HSQ t0 t1 t2 t3 t4 t6 t7 hcp
      go_wp2_with fail
      refine HEI.out.mono ?_
      rintro e w7 ⟨b3, rfl, hb3, hbk, hbe⟩
      rw [← HLS.out] at hbk
      have HX7 := Lib.hid ((H5.out.join HZ.out hb3 hbk hbe).congr (H := fun j => ∃ x ∈ l.take (k + 1), img s.length F (memR s 48 x) j) (fun j _ => by
        rw [HTK.out]
        constructor
        · rintro (⟨x, hx, h⟩ | h)
          · exact ⟨x, List.mem_append_left _ hx, h⟩
          · exact ⟨q, List.mem_append_right _ (List.mem_singleton.2 rfl), h⟩
        · rintro ⟨x, hx, h⟩
          rcases List.mem_append.1 hx with hx | hx
          · exact .inl ⟨x, hx, h⟩
          · rw [List.mem_singleton.1 hx] at h
            exact .inr h))
      clear hb3 hbk hbe HEI H5 H6
      go_wp2_with fail
      exact ⟨⟨k + 1, b3, by omega, by simp, rfl, HX7.out⟩, by simp [intOf]; omega⟩
theorem ends_m6 (s : List UInt8) (sb : ByteArray) (hL : L sb = s) (hsz : s.length ≤ 1000000) (Rb : Nat → Option RX) (d : Nat) (hd : d + 1 ≤ 48) (RW0 : RowM s sb Rb (d + 1)) (Z : Nat → Prop) (lo hh mn mx : Int) (l : List RX) (g : Nat) (F : Nat → Prop) (a : Nat) (w : World) (hZ : ∀ x, Z x → x < w.heap.size) (hsp : SpR (s.length + 1) Rb w g (.mk 6 lo hh mn mx l)) (hsn : sndR (d + 1) (.mk 6 lo hh mn mx l) = true) (hmz : MemoZ s Rb Z w) (hna : Rb a = none) (hnz : ¬ Z a) (hbl : BlkB w a (s.length + 1) F) :
    Calls Tryd.prog 35 #[ptrS g, .string sb, svB a (s.length + 1)] w (RetM s Rb Z (img s.length F (memR s 48 (.mk 6 lo hh mn mx l))) w) := by
  have hls : s.length = sb.size := by rw [← hL]; exact L_len sb
  have hkd := (snd_node hsn).2
  have HFW := Lib.hid (form_ways (snd_node hsn).1)
  have HSP := Lib.hid hsp
  have HSNX := Lib.hid hsn
  obtain ⟨ca, av, rv, gs, hbx, hng, hsl, hnav, hkids, -⟩ := hsp.open
  obtain ⟨aa, acap, rfl, al1, al2, al3, al4⟩ := hsl
  have hml : (l.length : Int) ≤ 9223372036854775807 := by simp only [maxLen] at al2; omega
  have HZ := Lib.hid hZ
  have HBX := Lib.hid (And.intro hbx hng)
  have HAA := Lib.hid al4
  have HNA := Lib.hid hnav
  have HKD := Lib.hid hkids
  have HSD := Lib.hid hkd
  have HS47 : Hid (∀ q ∈ l, sndR 47 q = true) := fun q hq => snd_le (by omega) (hkd q hq)
  have HLS := Lib.hid hls
  have HL := Lib.hid hL

  have HF := Lib.hid (show EnS s Rb Z w w a F from ⟨hna, hnz, hbl, hmz, KeepM.refl _ _⟩)
  have hmk := run_make_row' (P := Tryd.prog) 50 4 (.bool false) 1 Tryd.underlying50 bool_infoZ rfl .i64 .i64 (sb.size + 1) (by omega) (by omega)
  rw [show ((sb.size + 1 : Nat) : Int) = (sb.size : Int) + 1 by omega] at hmk
  have hsbi : (sb.size : Int) ≤ 1000000 := by omega
  obtain ⟨t0, t1, t2, t3, t4, t6, t7⟩ := hbx.cells
  simp only at t0 t1 t2 t3 t4 t6 t7
  clear hZ hsp hsn hmz hna hnz hbl hbx hng al1 al2 al3 al4 hnav hkids hkd  hls hL hsz
  simp only [ptrS, svB, HLS.out]
  go_enter Tryd.func35, Tryd.ntmps35
  go_upto_region 2 with fail
  generalize hW : World.alloc w _ = w1
  have hb1 : Below w.heap.size w w1 := hW ▸ (Below.refl _ _).alloc (Nat.le_refl _) _
  have HO1 := Lib.hid (show EnS s Rb Z w w1 w.heap.size (fun _ => False) from (HF.out).join HZ.out (Nat.le_refl _) (by rw [HLS.out]; exact hW ▸ blk_made w (sb.size + 1)) hb1)
  have HF1 := Lib.hid (HF.out.stay hb1)
  clear hW hb1 hmk t0 t1 t2 t3 t4 t6 t7
  obtain ⟨t0, t1, t2, t3, t4, t6, t7⟩ := (HBX.out.1.keepM HBX.out.2 HO1.out.keep).cells
  simp only at t0 t1 t2 t3 t4 t6 t7
  have HRW := Lib.hid (fun Z i w' hz hs hm hi => RW0 Z (.mk 6 lo hh mn mx l) g i w' hz hs HSNX.out (.inl rfl) hm hi)
  have HX0 := Lib.hid (HO1.out.congr (H := fun j => ∃ i, i < 0 ∧ F i ∧ memR s 48 (.mk 6 lo hh mn mx l) i j) (fun j _ => ⟨fun h => h.elim, fun ⟨i, hi, _⟩ => absurd hi (Nat.not_lt_zero _)⟩))
  clear RW0
  go_wp2_with fail
  go_loopw [7, 11] (fun ov nv wr => ∃ (k b : Nat), k ≤ sb.size + 1 ∧ nv = .int .i64 (k : Int) ∧ ov = .slice (some ⟨b, 0, none⟩) (sb.size + 1) (sb.size + 1) ∧ Hid (EnS s Rb Z w wr b (fun j => ∃ i, i < k ∧ F i ∧ memR s 48 (.mk 6 lo hh mn mx l) i j))) (fun _ nv _ => sb.size + 1 - (intOf nv).toNat)
  case atStart => exact ⟨0, w.heap.size, Nat.zero_le _, rfl, rfl, HX0.out⟩
  case round =>
    clear HX0 HO1 HF1 t0 t1 t2 t3 t4 t6 t7
    obtain ⟨k, b, hk, rfl, rfl, HX⟩ := hrel
    by_cases hlt : k ≤ sb.size
    case neg =>
      have hge : ¬ (k : Int) ≤ sb.size := by omega
      have HR := Lib.hid (HX.out.congr (H := img s.length F (memR s 48 (.mk 6 lo hh mn mx l))) (fun j hj => ⟨fun ⟨i, h1, h2, h3⟩ => ⟨i, by have := HLS.out; omega, h2, h3⟩, fun ⟨i, h1, h2, h3⟩ => ⟨i, by have := HLS.out; omega, h2, h3⟩⟩))
      clear hlt
      go_wp2_with fail
      go_ret
      have h := HR.out.ret
      rw [HLS.out] at h
      exact h
    case pos =>
      have hlti : (k : Int) ≤ sb.size := by omega
      have hlti2 : (k : Int) < (sb.size : Int) + 1 := by omega
      have hkm : k < s.length + 1 := by have := HLS.out; omega
      have hca := (HF.out.blk.keepM HF.out.rb HX.out.keep).cell hkm
      by_cases hF : F k
      · rw [bvB_true hF] at hca
        have HFK := Lib.hid hF
        have HCL := Lib.hid (HRW.out Z k wr (fun x hx => Nat.lt_of_lt_of_le (HZ.out x hx) HX.out.keep.size) (HSP.out.keepM HX.out.keep) HX.out.memo hkm)
        simp only [ptrS] at HCL
        clear hF hlt hkm
        go_wp2_with fail
        refine HCL.out.mono ?_
        rintro e w6 hret
        obtain ⟨b2, rfl, h5, h6⟩ := HX.out.call hret
        have H5 := Lib.hid h5
        have HEI := Lib.hid (either_any (s.length + 1) b b2 _ _ w6 (by have := HLS.out; omega) h5.blk h6.blk)
        simp only [HLS.out, svB] at HEI
        simp only [HLS.out, svB]
        clear hret h5 h6 HCL HX hca
        go_wp2_with fail
        refine HEI.out.mono ?_
        rintro e w7 ⟨b3, rfl, hb3, hbk, hbe⟩
        rw [← HLS.out] at hbk
        have HX7 := Lib.hid ((H5.out.join HZ.out hb3 hbk hbe).congr (H := fun j => ∃ i, i < k + 1 ∧ F i ∧ memR s 48 (.mk 6 lo hh mn mx l) i j) (fun j _ => by
          constructor
          · rintro (⟨i, h1, h2⟩ | h)
            · exact ⟨i, by omega, h2⟩
            · exact ⟨k, by omega, HFK.out, h⟩
          · rintro ⟨i, h1, h2, h3⟩
            by_cases hik : i = k
            · subst hik
              exact .inr h3
            · exact .inl ⟨i, by omega, h2, h3⟩))
        clear hb3 hbk hbe HEI H5
        go_wp2_with fail
        exact ⟨⟨k + 1, b3, by omega, by simp, rfl, HX7.out⟩, by simp [intOf]; omega⟩
      · rw [bvB_false hF] at hca
        have HX7 := Lib.hid (HX.out.congr (H := fun j => ∃ i, i < k + 1 ∧ F i ∧ memR s 48 (.mk 6 lo hh mn mx l) i j) (fun j _ => ⟨fun ⟨i, h1, h2⟩ => ⟨i, by omega, h2⟩, fun ⟨i, h1, h2, h3⟩ => ⟨i, by
          by_cases hik : i = k
          · subst hik
            exact absurd h2 hF
          · omega, h2, h3⟩⟩))
        clear hF hlt hkm
        go_wp2_with fail
        exact ⟨⟨k + 1, b, by omega, by simp, rfl, HX7.out⟩, by simp [intOf]; omega⟩
theorem ends_m7 (s : List UInt8) (sb : ByteArray) (hL : L sb = s) (hsz : s.length ≤ 1000000) (Rb : Nat → Option RX) (d : Nat) (hd : d + 1 ≤ 48) (RW0 : RowM s sb Rb (d + 1)) (Z : Nat → Prop) (lo hh mn mx : Int) (l : List RX) (g : Nat) (F : Nat → Prop) (a : Nat) (w : World) (hZ : ∀ x, Z x → x < w.heap.size) (hsp : SpR (s.length + 1) Rb w g (.mk 7 lo hh mn mx l)) (hsn : sndR (d + 1) (.mk 7 lo hh mn mx l) = true) (hmz : MemoZ s Rb Z w) (hna : Rb a = none) (hnz : ¬ Z a) (hbl : BlkB w a (s.length + 1) F) :
    Calls Tryd.prog 35 #[ptrS g, .string sb, svB a (s.length + 1)] w (RetM s Rb Z (img s.length F (memR s 48 (.mk 7 lo hh mn mx l))) w) := by
  have hls : s.length = sb.size := by rw [← hL]; exact L_len sb
  have hkd := (snd_node hsn).2
  have HFW := Lib.hid (form_ways (snd_node hsn).1)
  have HSP := Lib.hid hsp
  have HSNX := Lib.hid hsn
  obtain ⟨ca, av, rv, gs, hbx, hng, hsl, hnav, hkids, -⟩ := hsp.open
  obtain ⟨aa, acap, rfl, al1, al2, al3, al4⟩ := hsl
  have hml : (l.length : Int) ≤ 9223372036854775807 := by simp only [maxLen] at al2; omega
  have HZ := Lib.hid hZ
  have HBX := Lib.hid (And.intro hbx hng)
  have HAA := Lib.hid al4
  have HNA := Lib.hid hnav
  have HKD := Lib.hid hkids
  have HSD := Lib.hid hkd
  have HS47 : Hid (∀ q ∈ l, sndR 47 q = true) := fun q hq => snd_le (by omega) (hkd q hq)
  have HLS := Lib.hid hls
  have HL := Lib.hid hL

  have HF := Lib.hid (show EnS s Rb Z w w a F from ⟨hna, hnz, hbl, hmz, KeepM.refl _ _⟩)
  have hmk := run_make_row' (P := Tryd.prog) 50 4 (.bool false) 1 Tryd.underlying50 bool_infoZ rfl .i64 .i64 (sb.size + 1) (by omega) (by omega)
  rw [show ((sb.size + 1 : Nat) : Int) = (sb.size : Int) + 1 by omega] at hmk
  have hsbi : (sb.size : Int) ≤ 1000000 := by omega
  obtain ⟨t0, t1, t2, t3, t4, t6, t7⟩ := hbx.cells
  simp only at t0 t1 t2 t3 t4 t6 t7
  clear hZ hsp hsn hmz hna hnz hbl hbx hng al1 al2 al3 al4 hnav hkids hkd  hls hL hsz
  simp only [ptrS, svB, HLS.out]
  go_enter Tryd.func35, Tryd.ntmps35
  go_upto_region 2 with fail
  generalize hW : World.alloc w _ = w1
  have hb1 : Below w.heap.size w w1 := hW ▸ (Below.refl _ _).alloc (Nat.le_refl _) _
  have HO1 := Lib.hid (show EnS s Rb Z w w1 w.heap.size (fun _ => False) from (HF.out).join HZ.out (Nat.le_refl _) (by rw [HLS.out]; exact hW ▸ blk_made w (sb.size + 1)) hb1)
  have HF1 := Lib.hid (HF.out.stay hb1)
  clear hW hb1 hmk t0 t1 t2 t3 t4 t6 t7
  obtain ⟨t0, t1, t2, t3, t4, t6, t7⟩ := (HBX.out.1.keepM HBX.out.2 HO1.out.keep).cells
  simp only at t0 t1 t2 t3 t4 t6 t7
  have HRW := Lib.hid (fun Z i w' hz hs hm hi => RW0 Z (.mk 7 lo hh mn mx l) g i w' hz hs HSNX.out (.inr rfl) hm hi)
  have HX0 := Lib.hid (HO1.out.congr (H := fun j => ∃ i, i < 0 ∧ F i ∧ memR s 48 (.mk 7 lo hh mn mx l) i j) (fun j _ => ⟨fun h => h.elim, fun ⟨i, hi, _⟩ => absurd hi (Nat.not_lt_zero _)⟩))
  clear RW0
  go_wp2_with fail
  go_loopw [7, 11] (fun ov nv wr => ∃ (k b : Nat), k ≤ sb.size + 1 ∧ nv = .int .i64 (k : Int) ∧ ov = .slice (some ⟨b, 0, none⟩) (sb.size + 1) (sb.size + 1) ∧ Hid (EnS s Rb Z w wr b (fun j => ∃ i, i < k ∧ F i ∧ memR s 48 (.mk 7 lo hh mn mx l) i j))) (fun _ nv _ => sb.size + 1 - (intOf nv).toNat)
  case atStart => exact ⟨0, w.heap.size, Nat.zero_le _, rfl, rfl, HX0.out⟩
  case round =>
    clear HX0 HO1 HF1 t0 t1 t2 t3 t4 t6 t7
    obtain ⟨k, b, hk, rfl, rfl, HX⟩ := hrel
    by_cases hlt : k ≤ sb.size
    case neg =>
      have hge : ¬ (k : Int) ≤ sb.size := by omega
      have HR := Lib.hid (HX.out.congr (H := img s.length F (memR s 48 (.mk 7 lo hh mn mx l))) (fun j hj => ⟨fun ⟨i, h1, h2, h3⟩ => ⟨i, by have := HLS.out; omega, h2, h3⟩, fun ⟨i, h1, h2, h3⟩ => ⟨i, by have := HLS.out; omega, h2, h3⟩⟩))
      clear hlt
      go_wp2_with fail
      go_ret
      have h := HR.out.ret
      rw [HLS.out] at h
      exact h
    case pos =>
      have hlti : (k : Int) ≤ sb.size := by omega
      have hlti2 : (k : Int) < (sb.size : Int) + 1 := by omega
      have hkm : k < s.length + 1 := by have := HLS.out; omega
      have hca := (HF.out.blk.keepM HF.out.rb HX.out.keep).cell hkm
      by_cases hF : F k
      · rw [bvB_true hF] at hca
        have HFK := Lib.hid hF
        have HCL := Lib.hid (HRW.out Z k wr (fun x hx => Nat.lt_of_lt_of_le (HZ.out x hx) HX.out.keep.size) (HSP.out.keepM HX.out.keep) HX.out.memo hkm)
        simp only [ptrS] at HCL
        clear hF hlt hkm
        go_wp2_with fail
        refine HCL.out.mono ?_
        rintro e w6 hret
        obtain ⟨b2, rfl, h5, h6⟩ := HX.out.call hret
        have H5 := Lib.hid h5
        have HEI := Lib.hid (either_any (s.length + 1) b b2 _ _ w6 (by have := HLS.out; omega) h5.blk h6.blk)
        simp only [HLS.out, svB] at HEI
        simp only [HLS.out, svB]
        clear hret h5 h6 HCL HX hca
        go_wp2_with fail
        refine HEI.out.mono ?_
        rintro e w7 ⟨b3, rfl, hb3, hbk, hbe⟩
        rw [← HLS.out] at hbk
        have HX7 := Lib.hid ((H5.out.join HZ.out hb3 hbk hbe).congr (H := fun j => ∃ i, i < k + 1 ∧ F i ∧ memR s 48 (.mk 7 lo hh mn mx l) i j) (fun j _ => by
          constructor
          · rintro (⟨i, h1, h2⟩ | h)
            · exact ⟨i, by omega, h2⟩
            · exact ⟨k, by omega, HFK.out, h⟩
          · rintro ⟨i, h1, h2, h3⟩
            by_cases hik : i = k
            · subst hik
              exact .inr h3
            · exact .inl ⟨i, by omega, h2, h3⟩))
        clear hb3 hbk hbe HEI H5
        go_wp2_with fail
        exact ⟨⟨k + 1, b3, by omega, by simp, rfl, HX7.out⟩, by simp [intOf]; omega⟩
      · rw [bvB_false hF] at hca
        have HX7 := Lib.hid (HX.out.congr (H := fun j => ∃ i, i < k + 1 ∧ F i ∧ memR s 48 (.mk 7 lo hh mn mx l) i j) (fun j _ => ⟨fun ⟨i, h1, h2⟩ => ⟨i, by omega, h2⟩, fun ⟨i, h1, h2, h3⟩ => ⟨i, by
          by_cases hik : i = k
          · subst hik
            exact absurd h2 hF
          · omega, h2, h3⟩⟩))
        clear hF hlt hkm
        go_wp2_with fail
        exact ⟨⟨k + 1, b, by omega, by simp, rfl, HX7.out⟩, by simp [intOf]; omega⟩
end Go.Proofs.YtggolmamacoplaaDoor
