/- regex.size, sound, Valid, Size; datakitref15.count, nodes, Valid, Size walked (printed by gen_rw2.py). Conditions: none. -/
import Derived.Test.YtpkecepelcppiaaGreatDoorZd12
import Derived.Test.YtpkecepelcppiaaGreatDoorZd14
import Derived.Deep.DeepCutAuto
import Derived.Deep.CutBlock
namespace Go.Proofs.YtpkecepelcppiaaGreatDoor
open Go.RowKit
set_option maxHeartbeats 4000000
set_option maxRecDepth 100000

theorem foldl_drop {α β : Type} (f : β → α → β) (l : List α) (k : Nat) (h : k < l.length) (b : β) : (l.drop k).foldl f b = (l.drop (k + 1)).foldl f (f b l[k]) := by
 rw [List.drop_eq_getElem_cons h, List.foldl_cons]
theorem all_drop {α : Type} (f : α → Bool) (l : List α) (k : Nat) (h : k < l.length) : (l.drop k).all f = (f l[k] && (l.drop (k + 1)).all f) := by
 rw [List.drop_eq_getElem_cons h, List.all_cons]
theorem size_any : ∀ (d : Nat) (p : RX) (c : PC) (w : World), d ≤ 48 → RdP w c p →
  Calls Tryz.prog 82 #[aggP c, .int .i64 (d : Int)] w (Ret (.int .i64 (cntR d p)) w) := by
 intro d
 induction d with
 | zero =>
  intro p c w _ _
  obtain ⟨op, lo, hi, mn, mx, a⟩ := c
  go_enter Tryz.func82, Tryz.ntmps82
  go_wp2_with fail
  go_ret
  exact ⟨rfl, (Below.refl _ _).alloc (Nat.le_refl _) _⟩
 | succ d ih =>
  intro p c w hd hv
  have IH := Lib.hid ih
  clear ih
  cases hv with
  | mk op lo hi mn mx l lv cs hl hL =>
  obtain ⟨a, cap, rfl, h1, h2, h3, h4⟩ := hl
  have HL := Lib.hid h4
  have HLi := Lib.hid hL
  have hm : (l.length : Int) ≤ 9223372036854775807 := by simp only [maxLen] at h2; omega
  have hdi : ¬ ((d + 1 : Nat) : Int) < 1 := by omega
  clear h4 hL h1 h2 h3
  have HR : Hid (cntR (d + 1) (.mk op lo hi mn mx l) = l.foldl (fun n a => wrap64 (n + cntR d a)) 1) := rfl
  generalize cntR (d + 1) (.mk op lo hi mn mx l) = r at *
  simp only [aggP]
  go_enter Tryz.func82, Tryz.ntmps82
  go_upto_region 1 with fail
  generalize hW : World.alloc w _ = w1
  obtain ⟨ha1, -, hz1, hb1⟩ := alloc_of hW
  have HB1 := Lib.hid hb1
  have HX1 := Lib.hid ha1
  have HZ1 : Hid (w.heap.size < w1.heap.size) := by unfold Hid; omega
  obtain ⟨c0, c1, c2, c3, c4, c5⟩ := row6 ha1
  clear hW hb1 ha1 hz1
  go_wp2_with fail
  go_loopw [5, 7, 13] (fun nv _ iv wr => ∃ (k : Nat) (cur : Int), k ≤ l.length ∧ iv = .int .i64 k ∧ nv = .int .i64 cur ∧ Hid (r = (l.drop k).foldl (fun n a => wrap64 (n + cntR d a)) cur) ∧ Below w1.heap.size w1 wr) (fun _ _ iv _ => l.length - (intOf iv).toNat)
  case atStart => exact ⟨0, 1, Nat.zero_le _, rfl, rfl, HR.out, Below.refl _ _⟩
  case round =>
   obtain ⟨k, cur, hk, rfl, rfl, HC, hbw⟩ := hrel
   have HBW := Lib.hid hbw
   clear HR c0 c1 c2 c3 c4 c5
   by_cases hlt : k < l.length
   case neg =>
    have HF : Hid (r = cur) := by
     unfold Hid
     rw [HC.out, List.drop_of_length_le (by omega)]
     rfl
    have hge : ¬ (k : Int) < l.length := by omega
    clear HC hlt hbw
    go_wp2_with fail
    go_ret
    exact ⟨by rw [HF.out]; rfl, HB1.out.trans (HBW.out.mono HB1.out.size)⟩
   case pos =>
    have hlti : (k : Int) < l.length := by omega
    obtain ⟨g, o, rfl, hg, hat⟩ := HL.out (by omega)
    have HBR := Lib.hid (HB1.out.trans (hbw.mono (Nat.le_trans HB1.out.size (Nat.le_refl _))))
    have HRD := Lib.hid ((HLi.out k hlt).stays HBR.out)
    have HS : Hid (r = (l.drop (k + 1)).foldl (fun n a => wrap64 (n + cntR d a)) (wrap64 (cur + cntR d l[k]))) := by
     unfold Hid
     rw [HC.out, foldl_drop _ l k hlt]
    have hc6 : ∀ j, j < 6 → wr.cell? ⟨g, o + k * 6 + j, none⟩ = (cs k).cells[j]? := fun j hj => (HBR.out.cell (p := ⟨g, o + k * 6 + j, none⟩) hg).trans (hat k hlt j hj)
    clear hat HC hbw
    generalize l[k] = q at *
    generalize cs k = c at *
    obtain ⟨pa, pcap, hpa⟩ := HRD.out.forms
    generalize q.args.length = pn at *
    obtain ⟨p0, p1, p2, p3, p4, p5⟩ := c
    simp only at hpa
    subst hpa
    obtain ⟨c0, c1, c2, c3, c4, c5⟩ := cells6 hc6
    simp only at c0 c1 c2 c3 c4 c5
    clear hc6
    go_upto_region 7 with fail
    generalize hW2 : World.alloc wr _ = wa
    obtain ⟨ha2, -, hz2, hb2⟩ := alloc_of hW2
    have HB2 := Lib.hid hb2
    clear c0 c1 c2 c3 c4 c5
    obtain ⟨c0, c1, c2, c3, c4, c5⟩ := row6 ha2
    clear hW2 ha2 hz2 hb2
    go_wp2_with fail
    refine (IH.out q ⟨p0, p1, p2, p3, p4, .slice pa pn pcap⟩ wa (by omega) (HRD.out.stays HB2.out)).mono ?_
    rintro e w3 ⟨rfl, hb3⟩
    have HB3 := Lib.hid (HBW.out.trans ((HB2.out.trans (hb3.mono HB2.out.size)).mono HBW.out.size))
    clear hb3 c0 c1 c2 c3 c4 c5
    go_wp2_with fail
    exact ⟨⟨k + 1, _, by omega, rfl, rfl, HS.out, HB3.out⟩, by simp [intOf]; omega⟩
theorem sound_any : ∀ (d : Nat) (p : RX) (c : PC) (w : World), d ≤ 48 → RdP w c p →
  Calls Tryz.prog 81 #[aggP c, .int .i64 (d : Int)] w (Ret (.bool (sndR d p)) w) := by
 intro d
 induction d with
 | zero =>
  intro p c w _ _
  obtain ⟨op, lo, hi, mn, mx, a⟩ := c
  go_enter Tryz.func81, Tryz.ntmps81
  go_wp2_with fail
  go_ret
  exact ⟨rfl, (Below.refl _ _).alloc (Nat.le_refl _) _⟩
 | succ d ih =>
  intro p c w hd hv
  have IH := Lib.hid ih
  clear ih
  cases hv with
  | mk op lo hi mn mx l lv cs hl hL =>
  obtain ⟨a, cap, rfl, h1, h2, h3, h4⟩ := hl
  have HL := Lib.hid h4
  have HLi := Lib.hid hL
  have hm : (l.length : Int) ≤ 9223372036854775807 := by simp only [maxLen] at h2; omega
  have hdi : ¬ ((d + 1 : Nat) : Int) < 1 := by omega
  clear h4 hL h1 h2 h3
  have HR : Hid (sndR (d + 1) (.mk op lo hi mn mx l) = (formR op lo hi mn mx l.length && l.all (sndR d))) := rfl
  generalize sndR (d + 1) (.mk op lo hi mn mx l) = r at *
  have HFO := Lib.hid (fun w' => form_any op lo hi mn mx a l.length cap w')
  generalize formR op lo hi mn mx l.length = fo at *
  simp only [aggP]
  go_enter Tryz.func81, Tryz.ntmps81
  go_upto_region 1 with fail
  generalize hW : World.alloc w _ = w1
  obtain ⟨ha1, -, hz1, hb1⟩ := alloc_of hW
  have HB1 := Lib.hid hb1
  have HX1 := Lib.hid ha1
  have HZ1 : Hid (w.heap.size < w1.heap.size) := by unfold Hid; omega
  obtain ⟨c0, c1, c2, c3, c4, c5⟩ := row6 ha1
  clear hW hb1 ha1 hz1
  go_wp2_with fail
  refine (HFO.out _).mono ?_
  rintro e w2 ⟨rfl, hb2⟩
  have HBF := Lib.hid (HB1.out.trans (hb2.mono HB1.out.size))
  have HXF := Lib.hid ((hb2.block _ HZ1.out).trans HX1.out)
  have HZF : Hid (w.heap.size < w2.heap.size) := Nat.lt_of_lt_of_le HZ1.out hb2.size
  clear c0 c1 c2 c3 c4 c5 hb2 HFO HX1 HZ1 HB1
  obtain ⟨c0, c1, c2, c3, c4, c5⟩ := row6 HXF.out
  obtain ⟨w1, rfl⟩ : ∃ x : World, x = w2 := ⟨_, rfl⟩
  have HB1 := HBF
  have HX1 := HXF
  have HZ1 := HZF
  clear HBF HXF HZF
  cases fo with
  | false =>
   have HF : Hid (r = false) := HR.out
   go_wp2_with fail
   go_ret
   exact ⟨by (rw [HF.out]; try rfl), HB1.out⟩
  | true =>
  have HR1 : Hid (r = l.all (sndR d)) := HR.out
  clear HR
  go_wp2_with fail
  go_loopw [6, 17] (fun _ iv wr => ∃ (k : Nat), k ≤ l.length ∧ iv = .int .i64 k ∧ Hid (r = (l.drop k).all (sndR d)) ∧ Below w1.heap.size w1 wr) (fun _ iv _ => l.length - (intOf iv).toNat)
  case atStart => exact ⟨0, Nat.zero_le _, rfl, HR1.out, Below.refl _ _⟩
  case round =>
   obtain ⟨k, hk, rfl, HC, hbw⟩ := hrel
   have HBW := Lib.hid hbw
   clear HR1 c0 c1 c2 c3 c4 c5
   by_cases hlt : k < l.length
   case neg =>
    have HF : Hid (r = true) := by
     unfold Hid
     rw [HC.out, List.drop_of_length_le (by omega)]
     rfl
    have hge : ¬ (k : Int) < l.length := by omega
    clear HC hlt hbw
    go_wp2_with fail
    go_ret
    exact ⟨by (rw [HF.out]; try rfl), HB1.out.trans (HBW.out.mono HB1.out.size)⟩
   case pos =>
    have hlti : (k : Int) < l.length := by omega
    obtain ⟨g, o, rfl, hg, hat⟩ := HL.out (by omega)
    have HBR := Lib.hid (HB1.out.trans (hbw.mono (Nat.le_trans HB1.out.size (Nat.le_refl _))))
    have HRD := Lib.hid ((HLi.out k hlt).stays HBR.out)
    have HS : Hid (r = (sndR d l[k] && (l.drop (k + 1)).all (sndR d))) := by
     unfold Hid
     rw [HC.out, all_drop _ l k hlt]
    have hc6 : ∀ j, j < 6 → wr.cell? ⟨g, o + k * 6 + j, none⟩ = (cs k).cells[j]? := fun j hj => (HBR.out.cell (p := ⟨g, o + k * 6 + j, none⟩) hg).trans (hat k hlt j hj)
    clear hat HC hbw
    generalize l[k] = q at *
    generalize cs k = c at *
    obtain ⟨pa, pcap, hpa⟩ := HRD.out.forms
    generalize q.args.length = pn at *
    obtain ⟨p0, p1, p2, p3, p4, p5⟩ := c
    simp only at hpa
    subst hpa
    obtain ⟨c0, c1, c2, c3, c4, c5⟩ := cells6 hc6
    simp only at c0 c1 c2 c3 c4 c5
    clear hc6
    go_upto_region 6 with fail
    generalize hW2 : World.alloc wr _ = wa
    obtain ⟨ha2, -, hz2, hb2⟩ := alloc_of hW2
    have HB2 := Lib.hid hb2
    clear c0 c1 c2 c3 c4 c5
    obtain ⟨c0, c1, c2, c3, c4, c5⟩ := row6 ha2
    clear hW2 ha2 hz2 hb2
    have HIH := Lib.hid (IH.out q ⟨p0, p1, p2, p3, p4, .slice pa pn pcap⟩ wa (by omega) (HRD.out.stays HB2.out))
    generalize sndR d q = bq at *
    go_wp2_with fail
    refine HIH.out.mono ?_
    rintro e w3 ⟨rfl, hb3⟩
    have HB3 := Lib.hid (HBW.out.trans ((HB2.out.trans (hb3.mono HB2.out.size)).mono HBW.out.size))
    clear hb3 c0 c1 c2 c3 c4 c5 HIH
    cases bq with
    | false =>
     have HF : Hid (r = false) := HS.out
     go_wp2_with fail
     go_ret
     exact ⟨by (rw [HF.out]; try rfl), HB1.out.trans (HB3.out.mono HB1.out.size)⟩
    | true =>
    have HS2 : Hid (r = (l.drop (k + 1)).all (sndR d)) := HS.out
    clear HS
    go_wp2_with fail
    exact ⟨⟨k + 1, by omega, rfl, HS2.out, HB3.out⟩, by simp [intOf]; omega⟩
theorem PValid_any (p : RX) (c : PC) (w : World) (hv : RdP w c p) :
  Calls Tryz.prog 56 #[aggP c] w (Ret (.bool (valR p)) w) := by
 have HN : Hid (∀ w', Below w.heap.size w w' → Calls Tryz.prog 81 #[aggP c, .int .i64 48] w' (Ret (.bool (sndR 48 p)) w')) := fun w' hb => sound_any 48 p c w' (Nat.le_refl _) (hv.stays hb)
 have HS : Hid (∀ w', Below w.heap.size w w' → Calls Tryz.prog 82 #[aggP c, .int .i64 48] w' (Ret (.int .i64 (cntR 48 p)) w')) := fun w' hb => size_any 48 p c w' (Nat.le_refl _) (hv.stays hb)
 have HV : Hid (valR p = (sndR 48 p && decide (cntR 48 p ≤ 512))) := rfl
 obtain ⟨pa, pcap, hpa⟩ := hv.forms
 generalize p.args.length = pn at *
 obtain ⟨p0, p1, p2, p3, p4, p5⟩ := c
 simp only at hpa
 subst hpa
 clear hv
 generalize valR p = r at *
 generalize cntR 48 p = n at *
 generalize sndR 48 p = b at *
 simp only [aggP] at *
 go_enter Tryz.func56, Tryz.ntmps56
 go_upto_region 1 with fail
 generalize hW : World.alloc w _ = w1
 obtain ⟨ha1, -, hz1, hb1⟩ := alloc_of hW
 have HB1 := Lib.hid hb1
 have HX1 := Lib.hid ha1
 have HZ1 : Hid (w.heap.size < w1.heap.size) := by unfold Hid; omega
 obtain ⟨c0, c1, c2, c3, c4, c5⟩ := row6 ha1
 clear hW hb1 ha1 hz1
 go_wp2_with fail
 refine (HN.out _ HB1.out).mono ?_
 rintro e w2 ⟨rfl, hb2⟩
 have HB2 := Lib.hid (HB1.out.trans (hb2.mono HB1.out.size))
 have HX2 := Lib.hid ((hb2.block _ HZ1.out).trans HX1.out)
 clear hb2 HN c0 c1 c2 c3 c4 c5 HX1 HZ1
 obtain ⟨c0, c1, c2, c3, c4, c5⟩ := row6 HX2.out
 cases b with
 | false =>
  have HF : Hid (r = false) := HV.out
  go_wp2_with fail
  go_ret
  exact ⟨by (rw [HF.out]; try rfl), HB2.out⟩
 | true =>
 have HF : Hid (r = decide (n ≤ 512)) := HV.out
 go_wp2_with fail
 refine (HS.out _ HB2.out).mono ?_
 rintro e w3 ⟨rfl, hb3⟩
 have HB3 := Lib.hid (HB2.out.trans (hb3.mono HB2.out.size))
 clear hb3 HS c0 c1 c2 c3 c4 c5
 go_wp2_with fail
 go_ret
 exact ⟨by (rw [HF.out]; try rfl), HB3.out⟩
end Go.Proofs.YtpkecepelcppiaaGreatDoor
