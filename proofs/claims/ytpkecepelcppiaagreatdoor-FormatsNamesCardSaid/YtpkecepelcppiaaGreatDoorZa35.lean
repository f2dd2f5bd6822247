/- datakitref15.atom walked; printed by gen_rpg.py. Conditions: strings of at most 10^8 bytes. -/
import Derived.Test.YtpkecepelcppiaaGreatDoorZa34
import Derived.Test.YtpkecepelcppiaaGreatDoorZa2
import Derived.Test.YtpkecepelcppiaaGreatDoorZa20
namespace Go.Proofs.YtpkecepelcppiaaGreatDoor
open Go.RowKit Go.Shelf
set_option maxHeartbeats 4000000
set_option maxRecDepth 100000

theorem join_ne (op : Int) (l : List RX) (h : ¬ l.length = 1) : joinP op l = .mk op 0 0 0 0 l := by
 match l, h with
 | [], _ => rfl
 | [a], h => exact absurd rfl h
 | a :: b :: t, _ => rfl
theorem RetP.f {N : Nat → Prop} {p : RX} {w w' : World} {e : Ending} (h : RetP N p w e w') : RetF p w e w' := by
 obtain ⟨c, he, hq, hb⟩ := h
 exact ⟨c, he, hq.rd, hb⟩
theorem joined_any (N : Nat → Prop) (op : Int) (l : List RX) (lv : Value) (w : World) (hl : RdL N w lv l) : Calls Tryz.prog 102 #[.int .i64 op, lv] w (RetP N (joinP op l) w) := by
 obtain ⟨la, lcap, rfl, l1, l2⟩ := hl.form
 have HL := Lib.hid hl
 have hm : (l.length : Int) ≤ 9223372036854775807 := by simp only [maxLen] at l2; omega
 clear hl l1 l2
 go_enter Tryz.func102, Tryz.ntmps102
 go_upto_region 1 with fail
 generalize hW : World.alloc w _ = w1
 obtain ⟨ha, -, hz1, hb1⟩ := alloc_of hW
 have HX := Lib.hid (show BoxP w.heap.size ⟨0, 0, 0, 0, 0, .slice none 0 0⟩ w1 from ha)
 have HB := Lib.hid hb1
 clear hW ha hz1 hb1
 obtain ⟨z0, z1, z2, z3, z4, z5⟩ := HX.out.cells
 obtain ⟨y0, y1, y2, y3, y4, y5⟩ := HX.out.free
 simp only at z0 z1 z2 z3 z4 z5
 by_cases h1 : l.length = 1
 ·have e1 : ((l.length : Int) == 1) = true := by rw [h1]; rfl
  obtain ⟨q, rfl⟩ := List.length_eq_one_iff.1 h1
  obtain ⟨g, o, c, rfl, hc6, hrq⟩ := RdL.part HL.out HB.out 0 (by simp)
  have HRQ := Lib.hid (hrq.mono (M := fun g => (N g ∧ g < w.heap.size) ∨ w.heap.size + 1 ≤ g) (fun g h _ => .inl h))
  rw [show ([q] : List RX)[0] = q from rfl] at HRQ
  obtain ⟨pa, pcap, hpa⟩ := HRQ.out.rd.forms
  have HJ : Hid (joinP op [q] = q) := rfl
  generalize joinP op [q] = J at *
  generalize q.args.length = pn at *
  obtain ⟨p0, p1, p2, p3, p4, p5⟩ := c
  simp only at hpa
  subst hpa
  obtain ⟨b0, b1, b2, b3, b4, b5⟩ := cells6 hc6
  simp only [Nat.zero_mul, Nat.add_zero] at b0 b1 b2 b3 b4 b5
  rw [show ([q] : List RX).length = 1 from rfl] at *
  clear h1 hc6 hrq e1 hm
  go_wp2_with fail
  generalize hW : World.setCell _ _ _ = w9
  obtain ⟨hbx, hok⟩ := RetP.fin (N := N) (d := ⟨p0, p1, p2, p3, p4, .slice pa pn pcap⟩) HX.out HB.out HRQ.out hW
  obtain ⟨s0, s1, s2, s3, s4, s5⟩ := hbx.cells
  refine bodyPost_ret (v := aggP ⟨p0, p1, p2, p3, p4, .slice pa pn pcap⟩) (by simp only at s0 s1 s2 s3 s4 s5; simp [results, Tryz.results102, go_sem, s0, s1, s2, s3, s4, s5]) rfl ?_
  rw [HJ.out]
  exact hok
 ·have e1 : ((l.length : Int) == 1) = false := beq_false_of_ne (by omega)
  have HJ := Lib.hid (join_ne op l h1)
  have HN := Lib.hid ((((HL.out.node op 0 0 0 0).mono (M := fun g => N g ∧ g < w.heap.size) (fun g h1 h2 => ⟨h1, h2⟩)).stay HB.out).mono (M := fun g => (N g ∧ g < w.heap.size) ∨ w.heap.size + 1 ≤ g) (fun g h _ => .inl h))
  clear h1
  go_wp2_with fail
  generalize hW : World.setCell _ _ _ = w9
  obtain ⟨hbx, hok⟩ := RetP.fin (N := N) (d := ⟨op, 0, 0, 0, 0, .slice la l.length lcap⟩) HX.out HB.out HN.out hW
  obtain ⟨s0, s1, s2, s3, s4, s5⟩ := hbx.cells
  refine bodyPost_ret (v := aggP ⟨op, 0, 0, 0, 0, .slice la l.length lcap⟩) (by simp only at s0 s1 s2 s3 s4 s5; simp [results, Tryz.results102, go_sem, s0, s1, s2, s3, s4, s5]) rfl ?_
  rw [HJ.out]
  exact hok
end Go.Proofs.YtpkecepelcppiaaGreatDoor

namespace Go.Proofs.YtpkecepelcppiaaGreatDoor
open Go.RowKit Go.Shelf
set_option maxHeartbeats 4000000
set_option maxRecDepth 100000

def ParO (s : ByteArray) (m : Nat) (O : Option (RX × List UInt8)) (w : World) (e : Ending) (w' : World) : Prop :=
 ∃ c q k b, e = .returned (.tuple #[aggP c, .int .i64 ((k : Nat) : Int), .bool b]) ∧ RdQ (fun g => w.heap.size ≤ g) w' c q ∧ Below w.heap.size w w' ∧ k ≤ s.size + m ∧
  match O with
  | some x => b = true ∧ q = x.1 ∧ k ≤ s.size ∧ (L s).drop k = x.2
  | none => b = false
theorem par_fin {w wr w4 : World} {z d : PC} {q : RX} (hx : BoxP w.heap.size z wr) (hb : Below w.heap.size w wr) (hd : RdQ (fun g => w.heap.size < g) wr d q)
  (he : ((((((wr.setCell ⟨w.heap.size, 0, none⟩ (.int .i64 d.op)).setCell ⟨w.heap.size, 1, none⟩ (.int .i64 d.lo)).setCell ⟨w.heap.size, 2, none⟩ (.int .i64 d.hi)).setCell ⟨w.heap.size, 3, none⟩ (.int .i64 d.mn)).setCell ⟨w.heap.size, 4, none⟩ (.int .i64 d.mx)).setCell ⟨w.heap.size, 5, none⟩ d.a) = w4) :
  BoxP w.heap.size d w4 ∧ RdQ (fun g => w.heap.size ≤ g) w4 d q ∧ Below w.heap.size w w4 := by
 obtain ⟨b1, b2⟩ := hx.set he
 have ho := set6_other he
 exact ⟨b1, (hd.keep (fun x hx _ => ho x (by omega))).mono (fun g hg _ => Nat.le_of_lt hg), hb.trans b2⟩
theorem leaf_rdq (N : Nat → Prop) (w : World) (op lo hi : Int) : RdQ N w ⟨op, lo, hi, 0, 0, .slice none 0 0⟩ (.mk op lo hi 0 0 []) :=
 .mk op lo hi 0 0 [] _ (fun _ => ⟨0, 0, 0, 0, 0, .slice none 0 0⟩) SlX.nil (fun h => absurd h (Nat.lt_irrefl _)) (fun _ h => absurd h (Nat.not_lt_zero _))
theorem par_sub {w wr w' : World} {c : PC} {q : RX} (hq : RdQ (fun g => wr.heap.size ≤ g) w' c q) (hx : w.heap.size < wr.heap.size) : RdQ (fun g => w.heap.size < g) w' c q :=
 hq.mono (fun g h _ => Nat.lt_of_lt_of_le hx h)
def atmV (P : List UInt8 → Option (RX × List UInt8)) (s : ByteArray) (i : Nat) (v c1 : Int) : Option (RX × List UInt8) :=
 if v = 40 then
  (if c1 = 41 then some (.mk 1 0 0 0 0 [], (L s).drop (i + 2))
   else (P ((L s).drop (i + 1))).bind fun x => if hdI x.2 = 41 then some (x.1, x.2.drop 1) else none)
 else if v = 91 then
  (if c1 = 93 then some (.mk 0 0 0 0 0 [], (L s).drop (i + 2))
   else (oneQ ((L s).drop (i + 1))).bind fun x => if hdI x.2 = 45 then (oneQ (x.2.drop 1)).bind fun y => if hdI y.2 = 93 then some (rngR x.1 y.1, y.2.drop 1) else none else none)
 else if v = 46 then some (rngR 0 255, (L s).drop (i + 1))
 else (oneQ ((L s).drop i)).map fun x => (rngR x.1 x.1, x.2)
theorem atm_v (P : List UInt8 → Option (RX × List UInt8)) (s : ByteArray) (i : Nat) : atmI P ((L s).drop i) = atmV P s i (hdI ((L s).drop i)) (hdI ((L s).drop (i + 1))) := by
 unfold atmI atmV
 rw [List.drop_drop, List.drop_drop]
theorem Ratom_any (s : ByteArray) (left : Int) (P : List UInt8 → Option (RX × List UInt8)) (m : Nat) (hs : s.size ≤ 100000000) (hm : m ≤ 100) (hl : -1 ≤ left ∧ left ≤ 48)
  (halt : ∀ (i : Nat) (w : World), i ≤ s.size → Calls Tryz.prog 68 #[.string s, .int .i64 (i : Int), .int .i64 (left - 1)] w (ParO s m (P ((L s).drop i)) w))
  (i : Nat) (w : World) (hi : i ≤ s.size) : Calls Tryz.prog 168 #[.string s, .int .i64 (i : Int), .int .i64 left] w (ParO s (m + 2) (atmI P ((L s).drop i)) w) := by
 have hii : (i : Int) ≤ 100000000 := by omega
 have HS := Lib.hid hs
 have HI := Lib.hid hi
 have HM := Lib.hid hm
 have HALT := Lib.hid halt
 have HO := Lib.hid (atm_v P s i)
 generalize atmI P ((L s).drop i) = O at *
 obtain ⟨hl1, hl2⟩ := hl
 have HA0 := Lib.hid (fun w' => at_any s i HS.out (by have := HS.out; have := HI.out; omega) w')
 have HA1 := Lib.hid (fun w' => at_any s (i + 1) HS.out (by have := HS.out; have := HI.out; omega) w')
 rw [show ((i + 1 : Nat) : Int) = (i : Int) + 1 by omega] at HA1
 have HL0 := Lib.hid (hdI_lt (s := s) (i := i))
 have HL1 := Lib.hid (hdI_lt (s := s) (i := i + 1))
 generalize hdI ((L s).drop (i + 1)) = c1 at *
 generalize hdI ((L s).drop i) = v at *
 unfold atmV at HO
 clear hs hi hm halt
 go_enter Tryz.func168, Tryz.ntmps168
 go_upto_region 1 with fail
 generalize hW : World.alloc w _ = w1
 obtain ⟨ha, -, hz1, hb1⟩ := alloc_of hW
 have HX := Lib.hid (show BoxP w.heap.size ⟨0, 0, 0, 0, 0, .slice none 0 0⟩ w1 from ha)
 have HB := Lib.hid hb1
 clear hW ha hz1 hb1
 obtain ⟨z0, z1, z2, z3, z4, z5⟩ := HX.out.cells
 obtain ⟨y0, y1, y2, y3, y4, y5⟩ := HX.out.free
 simp only at z0 z1 z2 z3 z4 z5
 go_wp2_with fail
 refine (HA0.out w1).mono ?_
 rintro e wr ⟨rfl, rfl⟩
 by_cases e40 : v = 40
 ·subst e40
  replace HO := Lib.hid (HO.out.trans (if_pos rfl))
  have hlt := HL0.out (by decide)
  have HI1 : Hid (i + 1 ≤ s.size) := hlt
  clear HL0 HA0 hlt
  go_wp2_with fail
  refine (HA1.out w1).mono ?_
  rintro e wr ⟨rfl, rfl⟩
  by_cases e41 : c1 = 41
  ·subst e41
   have HQ := Lib.hid (HO.out.trans (if_pos rfl))
   have HK := Lib.hid (HL1.out (by decide))
   clear HO HL1 HA1 HALT
   go_wp2_with fail
   generalize hW : World.setCell _ _ _ = w9
   obtain ⟨hbx, hq, hb⟩ := par_fin (d := ⟨1, 0, 0, 0, 0, .slice none 0 0⟩) HX.out HB.out (leaf_rdq _ _ 1 0 0) hW
   obtain ⟨s0, s1, s2, s3, s4, s5⟩ := hbx.cells
   refine bodyPost_ret (v := .tuple #[aggP ⟨1, 0, 0, 0, 0, .slice none 0 0⟩, .int .i64 ((i + 2 : Nat) : Int), .bool true]) (by simp only at s0 s1 s2 s3 s4 s5; simp [results, Tryz.results168, go_sem, s0, s1, s2, s3, s4, s5]) rfl ⟨_, _, i + 2, true, rfl, hq, hb, by have := HK.out; omega, ?_⟩
   rw [HQ.out]
   exact ⟨rfl, rfl, by have := HK.out; omega, rfl⟩
  ·replace HO := Lib.hid (HO.out.trans (if_neg e41))
   have t41 : (c1 == 41) = false := beq_false_of_ne e41
   have HC0 := Lib.hid (HALT.out (i + 1) w1 HI1.out)
   rw [show ((i + 1 : Nat) : Int) = (i : Int) + 1 by omega] at HC0
   clear e41 HL1 HA1 HALT
   go_wp2_with fail
   refine HC0.out.mono ?_
   rintro e w3 ⟨c, q, k, b, rfl, hq, hb, hk, hx⟩
   have HXL := Lib.hid HX.out.lt
   replace HX := Lib.hid (HX.out.below hb)
   replace HB := Lib.hid (HB.out.trans (hb.mono HB.out.size))
   have HC := Lib.hid (par_sub hq HXL.out)
   have HK := Lib.hid hk
   have hki : (k : Int) ≤ 100000200 := by have := HS.out; have := HM.out; omega
   have HR := Lib.hid hx
   obtain ⟨pa, pcap, hpa⟩ := hq.rd.forms
   clear hq hb hk hx HC0 z0 z1 z2 z3 z4 z5 y0 y1 y2 y3 y4 y5
   generalize q.args.length = pn at *
   obtain ⟨p0, p1, p2, p3, p4, p5⟩ := c
   simp only at hpa
   subst hpa
   simp only [aggP]
   go_upto_region 6 with fail
   generalize hW4 : World.alloc w3 _ = w4
   obtain ⟨ha, -, hz1, hb1⟩ := alloc_of hW4
   have hbd := drewBn w4
   have HY := Lib.hid (show BoxP w3.heap.size ⟨p0, p1, p2, p3, p4, .slice pa pn pcap⟩ w4.drew from BoxP.below (show BoxP w3.heap.size ⟨p0, p1, p2, p3, p4, .slice pa pn pcap⟩ w4 from ha) hbd)
   have HM9 : Hid (w3.heap.size ≠ w.heap.size) := by unfold Hid; have := HX.out.lt; omega
   replace HX := Lib.hid ((HX.out.below hb1).below hbd)
   replace HB := Lib.hid ((HB.out.trans (hb1.mono HB.out.size)).trans (hbd.mono (HB.out.trans (hb1.mono HB.out.size)).size))
   replace HC := Lib.hid ((HC.out.stay hb1).stay hbd)
   have HA9 := Lib.hid (fun w' => at_any s k HS.out (by have := HS.out; have := HM.out; have := HK.out; omega) w')
   clear hW4 ha hz1 hb1 hbd
   generalize w3.heap.size = m9 at *
   have hS0 : BoxP m9 ⟨p0, p1, p2, p3, p4, .slice pa pn pcap⟩ w4.drew := HY.out
   refine wpq_region (fun w' => BoxP m9 ⟨p0, p1, p2, p3, p4, .slice pa pn pcap⟩ w') 12 (by kernel_rfl) hS0 (fun hHeld => ?_)
   clear hS0
   generalize w4.drew = w5 at *
   cases hp : P ((L s).drop (i + 1)) with
   | none =>
    rw [hp] at HR HO
    have hbf := HR.out
    subst hbf
    have HQ : Hid (O = none) := HO.out
    clear HR HO hp HA9
    refine wpq_tk 0 (some 40) [12] (Or.inl ⟨by rfl, fun w hSw => by (obtain ⟨x0, x1, x2, x3, x4, x5⟩ := BoxP.cells hSw; simp only at x0 x1 x2 x3 x4 x5; go_simp; with_reducible rfl)⟩) hHeld ?_ rfl rfl
    simp only [Act.put, sA, sZ, sS]
    refine wpq_tk 1 (some 41) [12] (Or.inl ⟨by rfl, fun w hSw => by (obtain ⟨x0, x1, x2, x3, x4, x5⟩ := BoxP.cells hSw; simp only at x0 x1 x2 x3 x4 x5; go_simp; with_reducible rfl)⟩) hHeld ?_ rfl rfl
    simp only [Act.put, sA, sZ, sS]
    refine wpq_tk 2 (some 42) [12] (Or.inl ⟨by rfl, fun w hSw => by (obtain ⟨x0, x1, x2, x3, x4, x5⟩ := BoxP.cells hSw; simp only at x0 x1 x2 x3 x4 x5; go_simp; with_reducible rfl)⟩) hHeld ?_ rfl rfl
    simp only [Act.put, sA, sZ, sS]
    refine wpq_tk 3 (some 43) [12] (Or.inl ⟨by rfl, fun w hSw => by (obtain ⟨x0, x1, x2, x3, x4, x5⟩ := BoxP.cells hSw; simp only at x0 x1 x2 x3 x4 x5; go_simp; with_reducible rfl)⟩) hHeld ?_ rfl rfl
    simp only [Act.put, sA, sZ, sS]
    refine wpq_tk 4 (some 44) [12] (Or.inl ⟨by rfl, fun w hSw => by (obtain ⟨x0, x1, x2, x3, x4, x5⟩ := BoxP.cells hSw; simp only at x0 x1 x2 x3 x4 x5; go_simp; with_reducible rfl)⟩) hHeld ?_ rfl rfl
    simp only [Act.put, sA, sZ, sS]
    refine wpq_tk 5 (some 45) [12] (Or.inr ⟨by rfl, rfl⟩) hHeld ?_ rfl rfl
    simp only [Act.put, sA, sZ, sS]
    refine wpq_tk 6 (some 46) [12] (Or.inr ⟨by rfl, rfl⟩) hHeld ?_ rfl rfl
    simp only [Act.put, sA, sZ, sS]
    refine wpq_one 7 (by kernel_rfl) rfl (fun K hK => ?_)
    go_simp
    refine hK.out _ _ hHeld (fun hHeld => ?_)
    clear hK K
    refine wpq_tk 8 (some 48) [12] (Or.inr ⟨by rfl, rfl⟩) hHeld ?_ rfl rfl
    simp only [Act.put, sA, sZ, sS]
    refine wpq_tk 9 (some 49) [12] (Or.inl ⟨by rfl, fun w hSw => by (obtain ⟨x0, x1, x2, x3, x4, x5⟩ := BoxP.cells hSw; simp only at x0 x1 x2 x3 x4 x5; go_simp; with_reducible rfl)⟩) hHeld ?_ rfl rfl
    simp only [Act.put, sA, sZ, sS]
    obtain ⟨z0, z1, z2, z3, z4, z5⟩ := HX.out.cells
    obtain ⟨y0, y1, y2, y3, y4, y5⟩ := HX.out.free
    simp only at z0 z1 z2 z3 z4 z5
    refine wpq_one 10 (by kernel_rfl) rfl (fun K hK => ?_)
    go_simp
    generalize hW : World.setCell _ _ _ = w9
    obtain ⟨hbx, hq, hb⟩ := par_fin (d := ⟨p0, p1, p2, p3, p4, .slice pa pn pcap⟩) HX.out HB.out HC.out hW
    have HBY := Lib.hid (show BoxP m9 ⟨p0, p1, p2, p3, p4, .slice pa pn pcap⟩ w9 from (set6_other hW m9 HM9.out).trans HY.out)
    clear hW z0 z1 z2 z3 z4 z5 y0 y1 y2 y3 y4 y5
    refine hK.out _ _ HBY.out (fun hHeld => ?_)
    clear hK K
    refine wpq_one 11 (by kernel_rfl) rfl (fun K hK => ?_)
    go_simp
    refine hK.out _ _ hHeld (fun hHeld => ?_)
    clear hK K
    refine wpq_end 12 (by kernel_rfl) rfl (by kernel_rfl) (fun K hK => ?_)
    go_simp
    refine hK.out _ _ ?_
    clear hK K
    refine wpq_done (by kernel_rfl) ?_ _
    go_simp
    obtain ⟨s0, s1, s2, s3, s4, s5⟩ := hbx.cells
    simp only at s0 s1 s2 s3 s4 s5
    go_wp2_with fail
    refine bodyPost_ret (v := .tuple #[aggP ⟨p0, p1, p2, p3, p4, .slice pa pn pcap⟩, .int .i64 ((k + 1 : Nat) : Int), .bool false]) (by simp [results, Tryz.results168, go_sem, s0, s1, s2, s3, s4, s5, IntWalk.i64_in ((k : Int) + 1) (by omega)]) rfl ⟨_, _, k + 1, false, rfl, hq, hb, by have := HK.out; omega, ?_⟩
    rw [HQ.out]
   | some x =>
    obtain ⟨p, r⟩ := x
    rw [hp] at HR HO
    obtain ⟨hbt, hqp, hks, hkr⟩ := HR.out
    subst hbt
    dsimp only at hqp hkr
    subst hqp
    subst hkr
    replace HO := Lib.hid (HO.out.trans (rfl : _ = if hdI ((L s).drop k) = 41 then some (q, ((L s).drop k).drop 1) else none))
    rw [List.drop_drop] at HO
    have HLK := Lib.hid (hdI_lt (s := s) (i := k))
    clear HR hp hks
    generalize hdI ((L s).drop k) = c2 at *
    by_cases e2 : c2 = 41
    ·subst e2
     have HQ := Lib.hid (HO.out.trans (if_pos rfl))
     have HKS := Lib.hid (HLK.out (by decide))
     clear HO HLK
     refine wpq_tk 0 (some 40) [12] (Or.inl ⟨by rfl, fun w hSw => by (obtain ⟨x0, x1, x2, x3, x4, x5⟩ := BoxP.cells hSw; simp only at x0 x1 x2 x3 x4 x5; go_simp; with_reducible rfl)⟩) hHeld ?_ rfl rfl
     simp only [Act.put, sA, sZ, sS]
     refine wpq_tk 1 (some 41) [12] (Or.inl ⟨by rfl, fun w hSw => by (obtain ⟨x0, x1, x2, x3, x4, x5⟩ := BoxP.cells hSw; simp only at x0 x1 x2 x3 x4 x5; go_simp; with_reducible rfl)⟩) hHeld ?_ rfl rfl
     simp only [Act.put, sA, sZ, sS]
     refine wpq_tk 2 (some 42) [12] (Or.inl ⟨by rfl, fun w hSw => by (obtain ⟨x0, x1, x2, x3, x4, x5⟩ := BoxP.cells hSw; simp only at x0 x1 x2 x3 x4 x5; go_simp; with_reducible rfl)⟩) hHeld ?_ rfl rfl
     simp only [Act.put, sA, sZ, sS]
     refine wpq_tk 3 (some 43) [12] (Or.inl ⟨by rfl, fun w hSw => by (obtain ⟨x0, x1, x2, x3, x4, x5⟩ := BoxP.cells hSw; simp only at x0 x1 x2 x3 x4 x5; go_simp; with_reducible rfl)⟩) hHeld ?_ rfl rfl
     simp only [Act.put, sA, sZ, sS]
     refine wpq_tk 4 (some 44) [12] (Or.inl ⟨by rfl, fun w hSw => by (obtain ⟨x0, x1, x2, x3, x4, x5⟩ := BoxP.cells hSw; simp only at x0 x1 x2 x3 x4 x5; go_simp; with_reducible rfl)⟩) hHeld ?_ rfl rfl
     simp only [Act.put, sA, sZ, sS]
     refine wpq_tk 5 (some 45) [12] (Or.inl ⟨by rfl, fun w hSw => by (obtain ⟨x0, x1, x2, x3, x4, x5⟩ := BoxP.cells hSw; simp only at x0 x1 x2 x3 x4 x5; go_simp; with_reducible rfl)⟩) hHeld ?_ rfl rfl
     simp only [Act.put, sA, sZ, sS]
     refine wpq_tk 6 (some 46) [12] (Or.inl ⟨by rfl, fun w hSw => by (obtain ⟨x0, x1, x2, x3, x4, x5⟩ := BoxP.cells hSw; simp only at x0 x1 x2 x3 x4 x5; go_simp; with_reducible rfl)⟩) hHeld ?_ rfl rfl
     simp only [Act.put, sA, sZ, sS]
     refine wpq_one 7 (by kernel_rfl) rfl (fun K hK => ?_)
     go_simp
     refine (HA9.out _).mono ?_
     rintro e wx ⟨rfl, rfl⟩
     refine hK.out _ _ hHeld (fun hHeld => ?_)
     clear hK K
     refine wpq_tk 8 (some 48) [12] (Or.inl ⟨by rfl, fun w hSw => by (obtain ⟨x0, x1, x2, x3, x4, x5⟩ := BoxP.cells hSw; simp only at x0 x1 x2 x3 x4 x5; go_simp; with_reducible rfl)⟩) hHeld ?_ rfl rfl
     simp only [Act.put, sA, sZ, sS]
     refine wpq_tk 9 (some 49) [12] (Or.inl ⟨by rfl, fun w hSw => by (obtain ⟨x0, x1, x2, x3, x4, x5⟩ := BoxP.cells hSw; simp only at x0 x1 x2 x3 x4 x5; go_simp; with_reducible rfl)⟩) hHeld ?_ rfl rfl
     simp only [Act.put, sA, sZ, sS]
     obtain ⟨z0, z1, z2, z3, z4, z5⟩ := HX.out.cells
     obtain ⟨y0, y1, y2, y3, y4, y5⟩ := HX.out.free
     simp only at z0 z1 z2 z3 z4 z5
     refine wpq_one 10 (by kernel_rfl) rfl (fun K hK => ?_)
     go_simp
     generalize hW : World.setCell _ _ _ = w9
     obtain ⟨hbx, hq, hb⟩ := par_fin (d := ⟨p0, p1, p2, p3, p4, .slice pa pn pcap⟩) HX.out HB.out HC.out hW
     have HBY := Lib.hid (show BoxP m9 ⟨p0, p1, p2, p3, p4, .slice pa pn pcap⟩ w9 from (set6_other hW m9 HM9.out).trans HY.out)
     clear hW z0 z1 z2 z3 z4 z5 y0 y1 y2 y3 y4 y5
     refine hK.out _ _ HBY.out (fun hHeld => ?_)
     clear hK K
     refine wpq_one 11 (by kernel_rfl) rfl (fun K hK => ?_)
     go_simp
     refine hK.out _ _ hHeld (fun hHeld => ?_)
     clear hK K
     refine wpq_end 12 (by kernel_rfl) rfl (by kernel_rfl) (fun K hK => ?_)
     go_simp
     refine hK.out _ _ ?_
     clear hK K
     refine wpq_done (by kernel_rfl) ?_ _
     go_simp
     obtain ⟨s0, s1, s2, s3, s4, s5⟩ := hbx.cells
     simp only at s0 s1 s2 s3 s4 s5
     go_wp2_with fail
     refine bodyPost_ret (v := .tuple #[aggP ⟨p0, p1, p2, p3, p4, .slice pa pn pcap⟩, .int .i64 ((k + 1 : Nat) : Int), .bool true]) (by simp [results, Tryz.results168, go_sem, s0, s1, s2, s3, s4, s5, IntWalk.i64_in ((k : Int) + 1) (by omega)]) rfl ⟨_, _, k + 1, true, rfl, hq, hb, by have := HK.out; omega, ?_⟩
     rw [HQ.out]
     exact ⟨rfl, rfl, HKS.out, rfl⟩
    ·have HQ := Lib.hid (HO.out.trans (if_neg e2))
     have t2 : (c2 == 41) = false := beq_false_of_ne e2
     clear HO HLK e2
     refine wpq_tk 0 (some 40) [12] (Or.inl ⟨by rfl, fun w hSw => by (obtain ⟨x0, x1, x2, x3, x4, x5⟩ := BoxP.cells hSw; simp only at x0 x1 x2 x3 x4 x5; go_simp; with_reducible rfl)⟩) hHeld ?_ rfl rfl
     simp only [Act.put, sA, sZ, sS]
     refine wpq_tk 1 (some 41) [12] (Or.inl ⟨by rfl, fun w hSw => by (obtain ⟨x0, x1, x2, x3, x4, x5⟩ := BoxP.cells hSw; simp only at x0 x1 x2 x3 x4 x5; go_simp; with_reducible rfl)⟩) hHeld ?_ rfl rfl
     simp only [Act.put, sA, sZ, sS]
     refine wpq_tk 2 (some 42) [12] (Or.inl ⟨by rfl, fun w hSw => by (obtain ⟨x0, x1, x2, x3, x4, x5⟩ := BoxP.cells hSw; simp only at x0 x1 x2 x3 x4 x5; go_simp; with_reducible rfl)⟩) hHeld ?_ rfl rfl
     simp only [Act.put, sA, sZ, sS]
     refine wpq_tk 3 (some 43) [12] (Or.inl ⟨by rfl, fun w hSw => by (obtain ⟨x0, x1, x2, x3, x4, x5⟩ := BoxP.cells hSw; simp only at x0 x1 x2 x3 x4 x5; go_simp; with_reducible rfl)⟩) hHeld ?_ rfl rfl
     simp only [Act.put, sA, sZ, sS]
     refine wpq_tk 4 (some 44) [12] (Or.inl ⟨by rfl, fun w hSw => by (obtain ⟨x0, x1, x2, x3, x4, x5⟩ := BoxP.cells hSw; simp only at x0 x1 x2 x3 x4 x5; go_simp; with_reducible rfl)⟩) hHeld ?_ rfl rfl
     simp only [Act.put, sA, sZ, sS]
     refine wpq_tk 5 (some 45) [12] (Or.inl ⟨by rfl, fun w hSw => by (obtain ⟨x0, x1, x2, x3, x4, x5⟩ := BoxP.cells hSw; simp only at x0 x1 x2 x3 x4 x5; go_simp; with_reducible rfl)⟩) hHeld ?_ rfl rfl
     simp only [Act.put, sA, sZ, sS]
     refine wpq_tk 6 (some 46) [12] (Or.inl ⟨by rfl, fun w hSw => by (obtain ⟨x0, x1, x2, x3, x4, x5⟩ := BoxP.cells hSw; simp only at x0 x1 x2 x3 x4 x5; go_simp; with_reducible rfl)⟩) hHeld ?_ rfl rfl
     simp only [Act.put, sA, sZ, sS]
     refine wpq_one 7 (by kernel_rfl) rfl (fun K hK => ?_)
     go_simp
     refine (HA9.out _).mono ?_
     rintro e wx ⟨rfl, rfl⟩
     refine hK.out _ _ hHeld (fun hHeld => ?_)
     clear hK K
     refine wpq_tk 8 (some 48) [12] (Or.inl ⟨by rfl, fun w hSw => by (obtain ⟨x0, x1, x2, x3, x4, x5⟩ := BoxP.cells hSw; simp only at x0 x1 x2 x3 x4 x5; go_simp; with_reducible rfl)⟩) hHeld ?_ rfl rfl
     simp only [Act.put, sA, sZ, sS]
     refine wpq_tk 9 (some 49) [12] (Or.inl ⟨by rfl, fun w hSw => by (obtain ⟨x0, x1, x2, x3, x4, x5⟩ := BoxP.cells hSw; simp only at x0 x1 x2 x3 x4 x5; go_simp; with_reducible rfl)⟩) hHeld ?_ rfl rfl
     simp only [Act.put, sA, sZ, sS]
     obtain ⟨z0, z1, z2, z3, z4, z5⟩ := HX.out.cells
     obtain ⟨y0, y1, y2, y3, y4, y5⟩ := HX.out.free
     simp only at z0 z1 z2 z3 z4 z5
     refine wpq_one 10 (by kernel_rfl) rfl (fun K hK => ?_)
     go_simp
     generalize hW : World.setCell _ _ _ = w9
     obtain ⟨hbx, hq, hb⟩ := par_fin (d := ⟨p0, p1, p2, p3, p4, .slice pa pn pcap⟩) HX.out HB.out HC.out hW
     have HBY := Lib.hid (show BoxP m9 ⟨p0, p1, p2, p3, p4, .slice pa pn pcap⟩ w9 from (set6_other hW m9 HM9.out).trans HY.out)
     clear hW z0 z1 z2 z3 z4 z5 y0 y1 y2 y3 y4 y5
     refine hK.out _ _ HBY.out (fun hHeld => ?_)
     clear hK K
     refine wpq_one 11 (by kernel_rfl) rfl (fun K hK => ?_)
     go_simp
     refine hK.out _ _ hHeld (fun hHeld => ?_)
     clear hK K
     refine wpq_end 12 (by kernel_rfl) rfl (by kernel_rfl) (fun K hK => ?_)
     go_simp
     refine hK.out _ _ ?_
     clear hK K
     refine wpq_done (by kernel_rfl) ?_ _
     go_simp
     obtain ⟨s0, s1, s2, s3, s4, s5⟩ := hbx.cells
     simp only at s0 s1 s2 s3 s4 s5
     go_wp2_with fail
     refine bodyPost_ret (v := .tuple #[aggP ⟨p0, p1, p2, p3, p4, .slice pa pn pcap⟩, .int .i64 ((k + 1 : Nat) : Int), .bool false]) (by simp [results, Tryz.results168, go_sem, s0, s1, s2, s3, s4, s5, IntWalk.i64_in ((k : Int) + 1) (by omega)]) rfl ⟨_, _, k + 1, false, rfl, hq, hb, by have := HK.out; omega, ?_⟩
     rw [HQ.out]
 have t40 : (v == 40) = false := beq_false_of_ne e40
 replace HO := Lib.hid (HO.out.trans (if_neg e40))
 clear HALT
 by_cases e91 : v = 91
 ·subst e91
  replace HO := Lib.hid (HO.out.trans (if_pos rfl))
  have hlt := HL0.out (by decide)
  have HI1 : Hid (i + 1 ≤ s.size) := hlt
  clear HL0 HA0 hlt e40
  go_wp2_with fail
  refine (HA1.out w1).mono ?_
  rintro e wr ⟨rfl, rfl⟩
  by_cases e93 : c1 = 93
  ·subst e93
   have HQ := Lib.hid (HO.out.trans (if_pos rfl))
   have HK := Lib.hid (HL1.out (by decide))
   clear HO HL1 HA1
   go_wp2_with fail
   generalize hW : World.setCell _ _ _ = w9
   obtain ⟨hbx, hq, hb⟩ := par_fin (d := ⟨0, 0, 0, 0, 0, .slice none 0 0⟩) HX.out HB.out (leaf_rdq _ _ 0 0 0) hW
   obtain ⟨s0, s1, s2, s3, s4, s5⟩ := hbx.cells
   refine bodyPost_ret (v := .tuple #[aggP ⟨0, 0, 0, 0, 0, .slice none 0 0⟩, .int .i64 ((i + 2 : Nat) : Int), .bool true]) (by simp only at s0 s1 s2 s3 s4 s5; simp [results, Tryz.results168, go_sem, s0, s1, s2, s3, s4, s5]) rfl ⟨_, _, i + 2, true, rfl, hq, hb, by have := HK.out; omega, ?_⟩
   rw [HQ.out]
   exact ⟨rfl, rfl, by have := HK.out; omega, rfl⟩
  ·replace HO := Lib.hid (HO.out.trans (if_neg e93))
   have t93 : (c1 == 93) = false := beq_false_of_ne e93
   have HL := Lib.hid (fun w' => letter_any s (i + 1) HS.out (by have := HS.out; have := HI1.out; omega) w')
   rw [show ((i + 1 : Nat) : Int) = (i : Int) + 1 by omega] at HL
   clear e93 HL1 HA1
   go_wp2_with fail
   refine (HL.out w1).mono ?_
   rintro e w3 ⟨he, hb⟩
   replace HX := Lib.hid (HX.out.below hb)
   replace HB := Lib.hid (HB.out.trans (hb.mono HB.out.size))
   clear hb HL z0 z1 z2 z3 z4 z5 y0 y1 y2 y3 y4 y5
   cases h1 : oneQ ((L s).drop (i + 1)) with
   | none =>
    rw [h1] at he HO
    obtain rfl : e = .returned (.tuple #[.int .i64 (-1), .int .i64 ((i + 1 : Nat) : Int)]) := he
    have HQ : Hid (O = none) := HO.out
    clear HO h1
    obtain ⟨z0, z1, z2, z3, z4, z5⟩ := HX.out.cells
    obtain ⟨y0, y1, y2, y3, y4, y5⟩ := HX.out.free
    simp only at z0 z1 z2 z3 z4 z5
    go_wp2_with fail
    generalize hW : World.setCell _ _ _ = w9
    obtain ⟨hbx, hq, hb⟩ := par_fin (d := ⟨0, 0, 0, 0, 0, .slice none 0 0⟩) HX.out HB.out (leaf_rdq _ _ 0 0 0) hW
    obtain ⟨s0, s1, s2, s3, s4, s5⟩ := hbx.cells
    refine bodyPost_ret (v := .tuple #[aggP ⟨0, 0, 0, 0, 0, .slice none 0 0⟩, .int .i64 ((i : Nat) : Int), .bool false]) (by simp only at s0 s1 s2 s3 s4 s5; simp [results, Tryz.results168, go_sem, s0, s1, s2, s3, s4, s5]) rfl ⟨_, _, i, false, rfl, hq, hb, by have := HS.out; have := HI.out; omega, ?_⟩
    rw [HQ.out]
   | some x =>
    obtain ⟨lo, r⟩ := x
    rw [h1] at he HO
    obtain ⟨k, hik, hks, hkr, hlo, rfl⟩ := he
    subst hkr
    replace HO := Lib.hid (HO.out.trans (rfl : _ = if hdI ((L s).drop k) = 45 then (oneQ (((L s).drop k).drop 1)).bind fun y => if hdI y.2 = 93 then some (rngR lo y.1, y.2.drop 1) else none else none))
    rw [List.drop_drop] at HO
    have HKS := Lib.hid hks
    have HA9 := Lib.hid (fun w' => at_any s k HS.out (by have := HS.out; have := HKS.out; omega) w')
    have HLK := Lib.hid (hdI_lt (s := s) (i := k))
    have hki : (k : Int) ≤ 100000000 := by have := HS.out; omega
    have hl0 : ¬ (lo : Int) < 0 := by omega
    clear h1 hik hks hlo
    generalize hdI ((L s).drop k) = c2 at *
    obtain ⟨z0, z1, z2, z3, z4, z5⟩ := HX.out.cells
    obtain ⟨y0, y1, y2, y3, y4, y5⟩ := HX.out.free
    simp only at z0 z1 z2 z3 z4 z5
    go_wp2_with fail
    refine (HA9.out w3).mono ?_
    rintro e wr ⟨rfl, rfl⟩
    by_cases e45 : c2 = 45
    case neg =>
     have HQ := Lib.hid (HO.out.trans (if_neg e45))
     have t45 : (c2 != 45) = true := bne_iff_ne.2 e45
     clear HO HLK e45
     go_wp2_with fail
     generalize hW : World.setCell _ _ _ = w9
     obtain ⟨hbx, hq, hb⟩ := par_fin (d := ⟨0, 0, 0, 0, 0, .slice none 0 0⟩) HX.out HB.out (leaf_rdq _ _ 0 0 0) hW
     obtain ⟨s0, s1, s2, s3, s4, s5⟩ := hbx.cells
     refine bodyPost_ret (v := .tuple #[aggP ⟨0, 0, 0, 0, 0, .slice none 0 0⟩, .int .i64 ((i : Nat) : Int), .bool false]) (by simp only at s0 s1 s2 s3 s4 s5; simp [results, Tryz.results168, go_sem, s0, s1, s2, s3, s4, s5]) rfl ⟨_, _, i, false, rfl, hq, hb, by have := HS.out; have := HI.out; omega, ?_⟩
     rw [HQ.out]
    case pos =>
     subst e45
     replace HO := Lib.hid (HO.out.trans (if_pos rfl))
     have HK1 : Hid (k + 1 ≤ s.size) := HLK.out (by decide)
     have HL := Lib.hid (fun w' => letter_any s (k + 1) HS.out (by have := HS.out; have := HK1.out; omega) w')
     rw [show ((k + 1 : Nat) : Int) = (k : Int) + 1 by omega] at HL
     clear HLK HA9
     go_wp2_with fail
     refine (HL.out w3).mono ?_
     rintro e w4 ⟨he, hb⟩
     replace HX := Lib.hid (HX.out.below hb)
     replace HB := Lib.hid (HB.out.trans (hb.mono HB.out.size))
     clear hb HL z0 z1 z2 z3 z4 z5 y0 y1 y2 y3 y4 y5
     cases h1 : oneQ ((L s).drop (k + 1)) with
     | none =>
      rw [h1] at he HO
      obtain rfl : e = .returned (.tuple #[.int .i64 (-1), .int .i64 ((k + 1 : Nat) : Int)]) := he
      have HQ : Hid (O = none) := HO.out
      clear HO h1
      obtain ⟨z0, z1, z2, z3, z4, z5⟩ := HX.out.cells
      obtain ⟨y0, y1, y2, y3, y4, y5⟩ := HX.out.free
      simp only at z0 z1 z2 z3 z4 z5
      go_wp2_with fail
      generalize hW : World.setCell _ _ _ = w9
      obtain ⟨hbx, hq, hb⟩ := par_fin (d := ⟨2, lo, -1, 0, 0, .slice none 0 0⟩) HX.out HB.out (leaf_rdq _ _ 2 lo (-1)) hW
      obtain ⟨s0, s1, s2, s3, s4, s5⟩ := hbx.cells
      refine bodyPost_ret (v := .tuple #[aggP ⟨2, lo, -1, 0, 0, .slice none 0 0⟩, .int .i64 ((k + 1 + 1 : Nat) : Int), .bool false]) (by simp only at s0 s1 s2 s3 s4 s5; simp [results, Tryz.results168, go_sem, s0, s1, s2, s3, s4, s5]) rfl ⟨_, _, k + 1 + 1, false, rfl, hq, hb, by have := HK1.out; omega, ?_⟩
      rw [HQ.out]
     | some x =>
      obtain ⟨hi, r⟩ := x
      rw [h1] at he HO
      obtain ⟨k2, hik, hks, hkr, hhi, rfl⟩ := he
      subst hkr
      replace HO := Lib.hid (HO.out.trans (rfl : _ = if hdI ((L s).drop k2) = 93 then some (rngR lo hi, ((L s).drop k2).drop 1) else none))
      rw [List.drop_drop] at HO
      have HKS2 := Lib.hid hks
      have HA9 := Lib.hid (fun w' => at_any s k2 HS.out (by have := HS.out; have := HKS2.out; omega) w')
      have HLK := Lib.hid (hdI_lt (s := s) (i := k2))
      have hki2 : (k2 : Int) ≤ 100000000 := by have := HS.out; omega
      have hh0 : (0 : Int) ≤ (hi : Int) := by omega
      clear h1 hik hks hhi
      generalize hdI ((L s).drop k2) = c3 at *
      obtain ⟨z0, z1, z2, z3, z4, z5⟩ := HX.out.cells
      obtain ⟨y0, y1, y2, y3, y4, y5⟩ := HX.out.free
      simp only at z0 z1 z2 z3 z4 z5
      go_wp2_with fail
      refine (HA9.out w4).mono ?_
      rintro e wr ⟨rfl, rfl⟩
      by_cases e93 : c3 = 93
      ·subst e93
       have HQ := Lib.hid (HO.out.trans (if_pos rfl))
       have HK2 : Hid (k2 + 1 ≤ s.size) := HLK.out (by decide)
       clear HO HLK
       go_wp2_with fail
       generalize hW : World.setCell _ _ _ = w9
       obtain ⟨hbx, hq, hb⟩ := par_fin (d := ⟨2, lo, hi, 0, 0, .slice none 0 0⟩) HX.out HB.out (leaf_rdq _ _ 2 lo hi) hW
       obtain ⟨s0, s1, s2, s3, s4, s5⟩ := hbx.cells
       refine bodyPost_ret (v := .tuple #[aggP ⟨2, lo, hi, 0, 0, .slice none 0 0⟩, .int .i64 ((k2 + 1 : Nat) : Int), .bool true]) (by simp only at s0 s1 s2 s3 s4 s5; simp [results, Tryz.results168, go_sem, s0, s1, s2, s3, s4, s5]) rfl ⟨_, _, k2 + 1, true, rfl, hq, hb, by have := HK2.out; omega, ?_⟩
       rw [HQ.out]
       exact ⟨rfl, rfl, HK2.out, rfl⟩
      ·have HQ := Lib.hid (HO.out.trans (if_neg e93))
       have t93 : (c3 == 93) = false := beq_false_of_ne e93
       clear HO HLK e93
       go_wp2_with fail
       generalize hW : World.setCell _ _ _ = w9
       obtain ⟨hbx, hq, hb⟩ := par_fin (d := ⟨2, lo, hi, 0, 0, .slice none 0 0⟩) HX.out HB.out (leaf_rdq _ _ 2 lo hi) hW
       obtain ⟨s0, s1, s2, s3, s4, s5⟩ := hbx.cells
       refine bodyPost_ret (v := .tuple #[aggP ⟨2, lo, hi, 0, 0, .slice none 0 0⟩, .int .i64 ((k2 + 1 : Nat) : Int), .bool false]) (by simp only at s0 s1 s2 s3 s4 s5; simp [results, Tryz.results168, go_sem, s0, s1, s2, s3, s4, s5]) rfl ⟨_, _, k2 + 1, false, rfl, hq, hb, by have := HKS2.out; omega, ?_⟩
       rw [HQ.out]
 have t91 : (v == 91) = false := beq_false_of_ne e91
 replace HO := Lib.hid (HO.out.trans (if_neg e91))
 clear HA1 HL1 HA0 e40 e91
 by_cases e46 : v = 46
 ·subst e46
  have HQ := Lib.hid (HO.out.trans (if_pos rfl))
  have HI1 : Hid (i + 1 ≤ s.size) := HL0.out (by decide)
  clear HL0
  go_wp2_with fail
  generalize hW : World.setCell _ _ _ = w9
  obtain ⟨hbx, hq, hb⟩ := par_fin (d := ⟨2, 0, 255, 0, 0, .slice none 0 0⟩) HX.out HB.out (leaf_rdq _ _ 2 0 255) hW
  obtain ⟨s0, s1, s2, s3, s4, s5⟩ := hbx.cells
  refine bodyPost_ret (v := .tuple #[aggP ⟨2, 0, 255, 0, 0, .slice none 0 0⟩, .int .i64 ((i + 1 : Nat) : Int), .bool true]) (by simp only at s0 s1 s2 s3 s4 s5; simp [results, Tryz.results168, go_sem, s0, s1, s2, s3, s4, s5]) rfl ⟨_, _, i + 1, true, rfl, hq, hb, by have := HI1.out; omega, ?_⟩
  rw [HQ.out]
  exact ⟨rfl, rfl, HI1.out, rfl⟩
 have t46 : (v == 46) = false := beq_false_of_ne e46
 replace HO := Lib.hid (HO.out.trans (if_neg e46))
 have HL := Lib.hid (fun w' => letter_any s i HS.out (by have := HS.out; have := HI.out; omega) w')
 clear HL0 e46
 go_wp2_with fail
 refine (HL.out w1).mono ?_
 rintro e w3 ⟨he, hb⟩
 replace HX := Lib.hid (HX.out.below hb)
 replace HB := Lib.hid (HB.out.trans (hb.mono HB.out.size))
 clear hb HL z0 z1 z2 z3 z4 z5 y0 y1 y2 y3 y4 y5
 cases h1 : oneQ ((L s).drop i) with
 | none =>
  rw [h1] at he HO
  obtain rfl : e = .returned (.tuple #[.int .i64 (-1), .int .i64 ((i : Nat) : Int)]) := he
  have HQ : Hid (O = none) := HO.out
  clear HO h1
  obtain ⟨z0, z1, z2, z3, z4, z5⟩ := HX.out.cells
  obtain ⟨y0, y1, y2, y3, y4, y5⟩ := HX.out.free
  simp only at z0 z1 z2 z3 z4 z5
  go_wp2_with fail
  generalize hW : World.setCell _ _ _ = w9
  obtain ⟨hbx, hq, hb⟩ := par_fin (d := ⟨2, -1, -1, 0, 0, .slice none 0 0⟩) HX.out HB.out (leaf_rdq _ _ 2 (-1) (-1)) hW
  obtain ⟨s0, s1, s2, s3, s4, s5⟩ := hbx.cells
  refine bodyPost_ret (v := .tuple #[aggP ⟨2, -1, -1, 0, 0, .slice none 0 0⟩, .int .i64 ((i : Nat) : Int), .bool false]) (by simp only at s0 s1 s2 s3 s4 s5; simp [results, Tryz.results168, go_sem, s0, s1, s2, s3, s4, s5]) rfl ⟨_, _, i, false, rfl, hq, hb, by have := HS.out; have := HI.out; omega, ?_⟩
  rw [HQ.out]
 | some x =>
  obtain ⟨lo, r⟩ := x
  rw [h1] at he HO
  obtain ⟨k, hik, hks, hkr, hlo, rfl⟩ := he
  subst hkr
  have HQ : Hid (O = some (rngR lo lo, (L s).drop k)) := HO.out
  have HKS := Lib.hid hks
  have hki : (k : Int) ≤ 100000000 := by have := HS.out; omega
  have hl0 : (0 : Int) ≤ (lo : Int) := by omega
  clear h1 hik hks hlo HO
  obtain ⟨z0, z1, z2, z3, z4, z5⟩ := HX.out.cells
  obtain ⟨y0, y1, y2, y3, y4, y5⟩ := HX.out.free
  simp only at z0 z1 z2 z3 z4 z5
  go_wp2_with fail
  generalize hW : World.setCell _ _ _ = w9
  obtain ⟨hbx, hq, hb⟩ := par_fin (d := ⟨2, lo, lo, 0, 0, .slice none 0 0⟩) HX.out HB.out (leaf_rdq _ _ 2 lo lo) hW
  obtain ⟨s0, s1, s2, s3, s4, s5⟩ := hbx.cells
  refine bodyPost_ret (v := .tuple #[aggP ⟨2, lo, lo, 0, 0, .slice none 0 0⟩, .int .i64 ((k : Nat) : Int), .bool true]) (by simp only at s0 s1 s2 s3 s4 s5; simp [results, Tryz.results168, go_sem, s0, s1, s2, s3, s4, s5]) rfl ⟨_, _, k, true, rfl, hq, hb, by have := HKS.out; omega, ?_⟩
  rw [HQ.out]
  exact ⟨rfl, rfl, HKS.out, rfl⟩
end Go.Proofs.YtpkecepelcppiaaGreatDoor
