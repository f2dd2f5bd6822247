/- The parser's number walked. Conditions: none. -/
import Derived.Test.YtpkecepelcppiaaGreatDoorZd17
import Derived.Test.YtpkecepelcppiaaGreatDoorZd13
import Derived.Test.YtpkecepelcppiaaGreatDoorZd11
import Derived.RegionTactic
import Derived.BigRegion
import Derived.Test.YtpkecepelcppiaaGreatDoorZd16
import Derived.Test.YtpkecepelcppiaaGreatDoorZd14
import Derived.Test.YtpkecepelcppiaaGreatDoorZd1
namespace Go.Proofs.YtpkecepelcppiaaGreatDoor
open Go.RowKit Go.Shelf
set_option maxHeartbeats 4000000
set_option maxRecDepth 100000

abbrev IsB (B b : Nat) (l : List UInt8) (w : World) : Prop := Lib.IsBuilder 108 5 B b (Lib.byteCells l) w
def WrP (b : Nat) (w0 : World) (l : List UInt8) (w : World) (e : Ending) (w' : World) : Prop :=
 e = .returned (.tuple #[]) ∧ IsB w0.heap.size b l w' ∧ Below w0.heap.size w0 w' ∧ KeepX b w w'
def WrC (d b : Nat) (w0 : World) : Prop := ∀ (p : RX) (c : PC) (w : World) (l : List UInt8), RdP w0 c p → sndR d p = true → IsB w0.heap.size b l w → Below w0.heap.size w0 w →
 l.length + (showR d p).length ≤ 1000000000 → Calls Tryz.prog 99 #[.pointer (some ⟨b, 0, none⟩), aggP c] w (WrP b w0 (l ++ showR d p) w)
theorem isb_lt {T e : TypeId} {B b : Nat} {bs : List Value} {w : World} (h : Lib.IsBuilder T e B b bs w) : b < w.heap.size := by
 rcases h with ⟨_, v, hh, _⟩ | ⟨_, v, hh, _⟩
 ·exact (Array.getElem?_eq_some_iff.1 hh).1
 ·exact (Array.getElem?_eq_some_iff.1 hh).1
theorem wb_any (b : Nat) (l : List UInt8) (x : UInt8) (w0 w : World) (h : IsB w0.heap.size b l w) (hb : Below w0.heap.size w0 w) (hl : l.length < 1000000000) :
  Calls Tryz.prog 132 #[.pointer (some ⟨b, 0, none⟩), .int .u8 x.toNat] w fun e w' => e = .returned .nilIface ∧ IsB w0.heap.size b (l ++ [x]) w' ∧ Below w0.heap.size w0 w' ∧ KeepX b w w' := by
 refine (WriteByte_keep _ b _ _ w h (by rw [Lib.byteCells_length]; omega) hb.size).mono ?_
 rintro e w' ⟨rfl, h1, h2, h3⟩
 refine ⟨rfl, ?_, hb.trans h2, h3⟩
 show Lib.IsBuilder _ _ _ _ (Lib.byteCells (l ++ [x])) _
 rw [Lib.byteCells_append]
 exact .inr h1
theorem ws_any (b : Nat) (l : List UInt8) (s : ByteArray) (w0 w : World) (h : IsB w0.heap.size b l w) (hb : Below w0.heap.size w0 w) (hl : l.length + s.size ≤ 1000000000) :
  Calls Tryz.prog 77 #[.pointer (some ⟨b, 0, none⟩), .string s] w fun e w' => e = .returned (.tuple #[.int .i64 s.size, .nilIface]) ∧ IsB w0.heap.size b (l ++ L s) w' ∧ Below w0.heap.size w0 w' ∧ KeepX b w w' := by
 refine (WriteString_keep _ b _ s w h (by rw [Lib.byteCells_length]; omega) hb.size).mono ?_
 rintro e w' ⟨rfl, h1, h2, h3⟩
 refine ⟨rfl, ?_, hb.trans h2, h3⟩
 show Lib.IsBuilder _ _ _ _ (Lib.byteCells (l ++ L s)) _
 rw [Lib.byteCells_append]
 exact .inr h1
theorem arg_of (d b : Nat) (w0 : World) (h : WrC d b w0) (p : RX) (c : PC) (w : World) (l : List UInt8) (least : Nat) (hp : RdP w0 c p) (hs : sndR d p = true) (hi : IsB w0.heap.size b l w) (hb : Below w0.heap.size w0 w)
  (hl : l.length + (argT (showR d) least p).length ≤ 1000000000) :
  Calls Tryz.prog 133 #[.pointer (some ⟨b, 0, none⟩), aggP c, .int .i64 (least : Int)] w (WrP b w0 (l ++ argT (showR d) least p) w) := by
 obtain ⟨pa, pcap, hpa⟩ := hp.forms
 have HP := Lib.hid hp
 have HS := Lib.hid hs
 have HC := Lib.hid h
 have hop : p.op = c.op := by cases hp; rfl
 have HT : Hid (argT (showR d) least p = if rowR c.op < least then 40 :: (showR d p ++ [41]) else showR d p) := by rw [← hop]; rfl
 have HL := Lib.hid hl
 have HI := Lib.hid hi
 have HB := Lib.hid hb
 clear hp hs h hl hi hb hop
 generalize p.args.length = pn at *
 obtain ⟨p0, p1, p2, p3, p4, p5⟩ := c
 simp only at hpa
 subst hpa
 simp only [aggP]
 generalize hT : argT (showR d) least p = T at *
 clear hT
 go_enter Tryz.func133, Tryz.ntmps133
 go_upto_region 1 with fail
 generalize hW : World.alloc w _ = w1
 obtain ⟨ha1, -, hz1, hb1⟩ := alloc_of hW
 have HX1 := Lib.hid ha1
 have HK := Lib.hid (KeepX.below (b := b) hb1)
 have HI0 := Lib.hid HI.out
 replace HI := Lib.hid (isb_below HI.out hb1)
 replace HB := Lib.hid (HB.out.trans (hb1.mono HB.out.size))
 have HNE : Hid (w.heap.size ≠ b) := by
  have h1 : b < w.heap.size := by
   exact isb_lt HI0.out
  unfold Hid
  omega
 obtain ⟨c0, c1, c2, c3, c4, c5⟩ := row6 ha1
 clear hW hb1 ha1 hz1
 go_wp2_with fail
 refine (row_any p0 _).mono ?_
 rintro e w2 ⟨rfl, rfl⟩
 by_cases hr : rowR p0 < least
 case neg =>
  have hge : ((least : Int) ≤ (rowR p0 : Int)) := by omega
  replace HT : Hid (T = showR d p) := by
   have := HT.out
   rw [if_neg hr] at this
   exact this
  clear hr
  generalize rowR p0 = r at *
  go_wp2_with fail
  refine (HC.out p _ w1 l HP.out HS.out HI.out HB.out (by have := HL.out; rw [HT.out] at this; exact this)).mono ?_
  rintro e w3 ⟨rfl, hi3, hb3, hk3⟩
  have H3 := Lib.hid (And.intro hi3 (And.intro hb3 hk3))
  clear hi3 hb3 hk3
  go_wp2_with fail
  go_end0
  rw [HT.out]
  exact ⟨rfl, H3.out.1, H3.out.2.1, HK.out.trans H3.out.2.2⟩
 case pos =>
  have hge : ¬ ((least : Int) ≤ (rowR p0 : Int)) := by omega
  replace HT : Hid (T = 40 :: (showR d p ++ [41])) := by
   have := HT.out
   rw [if_pos hr] at this
   exact this
  have HLN : Hid (l.length + (showR d p).length + 2 ≤ 1000000000) := by
   have := HL.out
   rw [HT.out] at this
   simp only [List.length_cons, List.length_append, List.length_nil] at this
   unfold Hid
   omega
  clear hr
  generalize rowR p0 = r at *
  go_wp2_with fail
  refine (wb_any b l 40 w0 w1 HI.out HB.out (by have := HLN.out; omega)).mono ?_
  rintro e w3 ⟨rfl, hi3, hb3, hk3⟩
  have HX3 := Lib.hid (hk3 _ _ _ HNE.out (by decide) HX1.out)
  have H3 := Lib.hid (And.intro hi3 (And.intro hb3 hk3))
  clear hi3 hb3 hk3 c0 c1 c2 c3 c4 c5
  obtain ⟨c0, c1, c2, c3, c4, c5⟩ := row6 HX3.out
  go_wp2_with fail
  refine (HC.out p _ w3 _ HP.out HS.out H3.out.1 H3.out.2.1 (by have := HLN.out; simp only [List.length_append, List.length_cons, List.length_nil]; omega)).mono ?_
  rintro e w4 ⟨rfl, hi4, hb4, hk4⟩
  have H4 := Lib.hid (And.intro hi4 (And.intro hb4 hk4))
  clear hi4 hb4 hk4
  go_wp2_with fail
  refine (wb_any b _ 41 w0 w4 H4.out.1 H4.out.2.1 (by have := HLN.out; simp only [List.length_append, List.length_cons, List.length_nil]; omega)).mono ?_
  rintro e w5 ⟨rfl, hi5, hb5, hk5⟩
  have H5 := Lib.hid (And.intro hi5 (And.intro hb5 hk5))
  clear hi5 hb5 hk5
  go_wp2_with fail
  go_end0
  refine ⟨rfl, ?_, H5.out.2.1, HK.out.trans (H3.out.2.2.trans (H4.out.2.2.trans H5.out.2.2))⟩
  have := H5.out.1
  rw [HT.out]
  simpa using this
end Go.Proofs.YtpkecepelcppiaaGreatDoor

namespace Go.Proofs.YtpkecepelcppiaaGreatDoor
open Go.RowKit Go.Shelf
set_option maxHeartbeats 4000000
set_option maxRecDepth 100000

theorem byteT_len (n : Nat) : (byteT n).length ≤ 4 := by
 unfold byteT
 split <;> simp
theorem drewBn (w : World) : Below w.heap.size w w.drew := ⟨rfl, rfl, rfl, Nat.le_refl _, fun _ _ => rfl⟩

theorem write_leaf0 (b : Nat) (w0 w : World) (l : List UInt8) (lo hi' mn mx : Int) (a : Option Addr) (n cap : Nat) (hi : IsB w0.heap.size b l w) (hb : Below w0.heap.size w0 w) (hl : l.length + 2 ≤ 1000000000) :
  Calls Tryz.prog 99 #[.pointer (some ⟨b, 0, none⟩), aggP ⟨0, lo, hi', mn, mx, .slice a n cap⟩] w (WrP b w0 (l ++ [91, 93]) w) := by
 have HI := Lib.hid hi
 have HB := Lib.hid hb
 have HL := Lib.hid hl
 clear hi hb hl
 simp only [aggP]
 go_enter Tryz.func99, Tryz.ntmps99
 go_upto_region 1 with fail
 generalize hW : World.alloc w _ = w1
 obtain ⟨ha1, -, hz1, hb1⟩ := alloc_of hW
 have HX1 := Lib.hid ha1
 have HK := Lib.hid (KeepX.below (b := b) hb1)
 have HNE : Hid (w.heap.size ≠ b) := by
  have h1 : b < w.heap.size := isb_lt HI.out
  unfold Hid
  omega
 replace HI := Lib.hid (isb_below HI.out hb1)
 replace HB := Lib.hid (HB.out.trans (hb1.mono HB.out.size))
 obtain ⟨c0, c1, c2, c3, c4, c5⟩ := row6 ha1
 clear hW hb1 ha1 hz1
 go_wp2_with fail
 refine (ws_any b l ⟨#[91, 93]⟩ w0 w1 HI.out HB.out HL.out).mono ?_
 rintro e w3 ⟨rfl, hi3, hb3, hk3⟩
 have H3 := Lib.hid (And.intro hi3 (And.intro hb3 hk3))
 clear hi3 hb3 hk3
 go_wp2_with fail
 go_end0
 exact ⟨rfl, H3.out.1, H3.out.2.1, HK.out.trans H3.out.2.2⟩
theorem write_leaf1 (b : Nat) (w0 w : World) (l : List UInt8) (lo hi' mn mx : Int) (a : Option Addr) (n cap : Nat) (hi : IsB w0.heap.size b l w) (hb : Below w0.heap.size w0 w) (hl : l.length + 2 ≤ 1000000000) :
  Calls Tryz.prog 99 #[.pointer (some ⟨b, 0, none⟩), aggP ⟨1, lo, hi', mn, mx, .slice a n cap⟩] w (WrP b w0 (l ++ [40, 41]) w) := by
 have HI := Lib.hid hi
 have HB := Lib.hid hb
 have HL := Lib.hid hl
 clear hi hb hl
 simp only [aggP]
 go_enter Tryz.func99, Tryz.ntmps99
 go_upto_region 1 with fail
 generalize hW : World.alloc w _ = w1
 obtain ⟨ha1, -, hz1, hb1⟩ := alloc_of hW
 have HX1 := Lib.hid ha1
 have HK := Lib.hid (KeepX.below (b := b) hb1)
 have HNE : Hid (w.heap.size ≠ b) := by
  have h1 : b < w.heap.size := isb_lt HI.out
  unfold Hid
  omega
 replace HI := Lib.hid (isb_below HI.out hb1)
 replace HB := Lib.hid (HB.out.trans (hb1.mono HB.out.size))
 obtain ⟨c0, c1, c2, c3, c4, c5⟩ := row6 ha1
 clear hW hb1 ha1 hz1
 go_wp2_with fail
 refine (ws_any b l ⟨#[40, 41]⟩ w0 w1 HI.out HB.out HL.out).mono ?_
 rintro e w3 ⟨rfl, hi3, hb3, hk3⟩
 have H3 := Lib.hid (And.intro hi3 (And.intro hb3 hk3))
 clear hi3 hb3 hk3
 go_wp2_with fail
 go_end0
 exact ⟨rfl, H3.out.1, H3.out.2.1, HK.out.trans H3.out.2.2⟩
theorem write_rng (b : Nat) (w0 w : World) (l : List UInt8) (lo hh : Nat) (mn mx : Int) (a : Option Addr) (n cap : Nat) (h1 : lo ≤ hh) (h2 : hh ≤ 255) (hi : IsB w0.heap.size b l w) (hb : Below w0.heap.size w0 w) (hl : l.length + (rngT lo hh).length ≤ 1000000000) :
  Calls Tryz.prog 99 #[.pointer (some ⟨b, 0, none⟩), aggP ⟨2, (lo : Int), (hh : Int), mn, mx, .slice a n cap⟩] w (WrP b w0 (l ++ rngT lo hh) w) := by
 have HBL := Lib.hid (fun w' => byteP_any lo (by omega) w')
 have HBH := Lib.hid (fun w' => byteP_any hh h2 w')
 have hzl := byteT_len lo
 have hzh := byteT_len hh
 have HZL := Lib.hid hzl
 have HZH := Lib.hid hzh
 have HR : Hid (rngT lo hh = if (lo : Int) = hh then byteT lo else if (lo : Int) = 0 ∧ (hh : Int) = 255 then [46] else 91 :: (byteT lo ++ (45 :: (byteT hh ++ [93])))) := rfl
 have HX0 := Lib.hid h1
 clear h1 h2 hzl hzh
 generalize rngT lo hh = T at *
 by_cases e0 : lo = hh
 ·subst e0
  replace HR : Hid (T = byteT lo) := by
   have := HR.out
   rwa [if_pos rfl] at this
  clear HBH HX0
  have HI := Lib.hid hi
  have HB := Lib.hid hb
  have HL := Lib.hid hl
  clear hi hb hl
  simp only [aggP]
  go_enter Tryz.func99, Tryz.ntmps99
  go_upto_region 1 with fail
  generalize hW : World.alloc w _ = w1
  obtain ⟨ha1, -, hz1, hb1⟩ := alloc_of hW
  have HX1 := Lib.hid ha1
  have HK := Lib.hid (KeepX.below (b := b) hb1)
  have HNE : Hid (w.heap.size ≠ b) := by
   have h1 : b < w.heap.size := isb_lt HI.out
   unfold Hid
   omega
  replace HI := Lib.hid (isb_below HI.out hb1)
  replace HB := Lib.hid (HB.out.trans (hb1.mono HB.out.size))
  obtain ⟨c0, c1, c2, c3, c4, c5⟩ := row6 ha1
  clear hW hb1 ha1 hz1
  go_wp2_with fail
  refine (HBL.out _).mono ?_
  rintro e w2 ⟨⟨u, rfl, hu⟩, hb2⟩
  have HU := Lib.hid hu
  have HK2 := Lib.hid (HK.out.trans (KeepX.below (b := b) hb2))
  replace HI := Lib.hid (isb_below HI.out hb2)
  replace HB := Lib.hid (HB.out.trans (hb2.mono HB.out.size))
  have HLU : Hid (l.length + u.size ≤ 1000000000) := by
   have := HL.out
   have h2 := L_len u
   rw [hu] at h2
   rw [HR.out] at this
   unfold Hid
   omega
  clear hu hb2 HBL HL
  go_wp2_with fail
  refine (ws_any b l u w0 w2 HI.out HB.out HLU.out).mono ?_
  rintro e w3 ⟨rfl, hi3, hb3, hk3⟩
  have H3 := Lib.hid (And.intro hi3 (And.intro hb3 hk3))
  clear hi3 hb3 hk3
  go_wp2_with fail
  go_end0
  rw [HR.out, ← HU.out]
  exact ⟨rfl, H3.out.1, H3.out.2.1, HK2.out.trans H3.out.2.2⟩
 have f0 : ((lo : Int) == (hh : Int)) = false := beq_false_of_ne (by omega)
 replace HR : Hid (T = if (lo : Int) = 0 ∧ (hh : Int) = 255 then [46] else 91 :: (byteT lo ++ (45 :: (byteT hh ++ [93])))) := by
  have := HR.out
  rwa [if_neg (by omega)] at this
 clear e0
 by_cases e1 : lo = 0 ∧ hh = 255
 ·obtain ⟨rfl, rfl⟩ := e1
  replace HR : Hid (T = [46]) := by
   have := HR.out
   rwa [if_pos ⟨rfl, rfl⟩] at this
  clear HBH HBL HX0
  have HI := Lib.hid hi
  have HB := Lib.hid hb
  have HL := Lib.hid hl
  clear hi hb hl
  simp only [aggP]
  go_enter Tryz.func99, Tryz.ntmps99
  go_upto_region 1 with fail
  generalize hW : World.alloc w _ = w1
  obtain ⟨ha1, -, hz1, hb1⟩ := alloc_of hW
  have HX1 := Lib.hid ha1
  have HK := Lib.hid (KeepX.below (b := b) hb1)
  have HNE : Hid (w.heap.size ≠ b) := by
   have h1 : b < w.heap.size := isb_lt HI.out
   unfold Hid
   omega
  replace HI := Lib.hid (isb_below HI.out hb1)
  replace HB := Lib.hid (HB.out.trans (hb1.mono HB.out.size))
  obtain ⟨c0, c1, c2, c3, c4, c5⟩ := row6 ha1
  clear hW hb1 ha1 hz1
  go_wp2_with fail
  refine (wb_any b l 46 w0 w1 HI.out HB.out (by have := HL.out; rw [HR.out] at this; simp only [List.length_cons, List.length_nil] at this; omega)).mono ?_
  rintro e w3 ⟨rfl, hi3, hb3, hk3⟩
  have H3 := Lib.hid (And.intro hi3 (And.intro hb3 hk3))
  clear hi3 hb3 hk3
  go_wp2_with fail
  go_end0
  rw [HR.out]
  exact ⟨rfl, H3.out.1, H3.out.2.1, HK.out.trans H3.out.2.2⟩
 replace HR : Hid (T = 91 :: (byteT lo ++ (45 :: (byteT hh ++ [93])))) := by
  have := HR.out
  rwa [if_neg (by omega)] at this
 have HE1 := Lib.hid e1
 clear e1
 have HI := Lib.hid hi
 have HB := Lib.hid hb
 have HL := Lib.hid hl
 clear hi hb hl
 simp only [aggP]
 go_enter Tryz.func99, Tryz.ntmps99
 go_upto_region 1 with fail
 generalize hW : World.alloc w _ = w1
 obtain ⟨ha1, -, hz1, hb1⟩ := alloc_of hW
 have HX1 := Lib.hid ha1
 have HK := Lib.hid (KeepX.below (b := b) hb1)
 have HNE : Hid (w.heap.size ≠ b) := by
  have h1 : b < w.heap.size := isb_lt HI.out
  unfold Hid
  omega
 replace HI := Lib.hid (isb_below HI.out hb1)
 replace HB := Lib.hid (HB.out.trans (hb1.mono HB.out.size))
 obtain ⟨c0, c1, c2, c3, c4, c5⟩ := row6 ha1
 clear hW hb1 ha1 hz1
 go_upto_region 11 with fail
 go_cut [43] (fun v wx => v = .bool false ∧ w1 = wx)
 case first =>
  by_cases e2 : lo = 0
  ·have e3 : ((hh : Int) == 255) = false := beq_false_of_ne (by have := HE1.out; omega)
   subst e2
   go_wp2_with fail
   go_meet
   exact ⟨rfl, rfl⟩
  ·have e3 : ((lo : Int) == 0) = false := beq_false_of_ne (by omega)
   clear e2
   go_wp2_with fail
   go_meet
   exact ⟨rfl, rfl⟩
 case rest =>
 obtain ⟨rfl, rfl⟩ := hcut
 go_upto_region 8 with fail
 have HSX : Hid (∀ w' : World, w'.heap[w.heap.size]? = w1.heap[w.heap.size]? → w'.cell? ⟨w.heap.size, 1, none⟩ = some (.int .i64 (lo : Int)) ∧ w'.cell? ⟨w.heap.size, 2, none⟩ = some (.int .i64 (hh : Int))) := by
  intro w' he
  obtain ⟨-, d1, d2, -, -, -⟩ := row6 (he.trans HX1.out)
  exact ⟨d1, d2⟩
 clear c0 c1 c2 c3 c4 c5 f0
 refine wp_region_held_drew (S := fun w' => w'.cell? ⟨w.heap.size, 1, none⟩ = some (.int .i64 (lo : Int)) ∧ w'.cell? ⟨w.heap.size, 2, none⟩ = some (.int .i64 (hh : Int))) (by kernel_rfl) (HSX.out _ rfl) (fun hHeld => ?_)
 have HBX := Lib.hid (drewBn w1)
 have HZ1 : Hid (w.heap.size < w1.heap.size) := (Array.getElem?_eq_some_iff.1 HX1.out).1
 replace HI := Lib.hid (isb_below HI.out (drewBn w1))
 replace HB := Lib.hid (HB.out.trans ((drewBn w1).mono HB.out.size))
 generalize w1.drew = wd at *
 refine take_at 0 (some 20) rfl rfl (by kernel_rfl) (by kernel_rfl) (by kernel_rfl) (fun _ _ _ h => h) (Or.inl ⟨by rfl, fun w hSw => by (obtain ⟨q1, q2⟩ := hSw; go_simp; with_reducible rfl)⟩) hHeld ?_
 simp only [Act.put, sA, sZ, sS]
 refine take_at 1 (some 21) rfl rfl (by kernel_rfl) (by kernel_rfl) (by kernel_rfl) (fun _ _ _ h => h) (Or.inl ⟨by rfl, fun w hSw => by (obtain ⟨q1, q2⟩ := hSw; go_simp; with_reducible rfl)⟩) hHeld ?_
 simp only [Act.put, sA, sZ, sS]
 refine take_at 2 (some 22) rfl rfl (by kernel_rfl) (by kernel_rfl) (by kernel_rfl) (fun _ _ _ h => h) (Or.inl ⟨by rfl, fun w hSw => by (obtain ⟨q1, q2⟩ := hSw; go_simp; with_reducible rfl)⟩) hHeld ?_
 simp only [Act.put, sA, sZ, sS]
 refine take_at 6 (some 26) rfl rfl (by kernel_rfl) (by kernel_rfl) (by kernel_rfl) (fun _ _ _ h => h) (Or.inl ⟨by rfl, fun w hSw => by (obtain ⟨q1, q2⟩ := hSw; go_simp; with_reducible rfl)⟩) hHeld ?_
 simp only [Act.put, sA, sZ, sS]
 refine take_at 7 (some 27) rfl rfl (by kernel_rfl) (by kernel_rfl) (by kernel_rfl) (fun _ _ _ h => h) (Or.inl ⟨by rfl, fun w hSw => by (obtain ⟨q1, q2⟩ := hSw; go_simp; with_reducible rfl)⟩) hHeld ?_
 simp only [Act.put, sA, sZ, sS]
 refine wpAnyH_ready (rs := [3]) (by kernel_rfl) (by simp) ?_
 refine AllReadyH.cons rfl (fun K hK => ?_) AllReadyH.nil
 go_simp
 refine (HBL.out _).mono ?_
 rintro e u1 ⟨⟨t1, rfl, ht1⟩, hb1⟩
 have HT1 := Lib.hid ht1
 replace HI := Lib.hid (isb_below HI.out hb1)
 replace HBX := Lib.hid (HBX.out.trans (hb1.mono HBX.out.size))
 replace HB := Lib.hid (HB.out.trans (hb1.mono HB.out.size))
 have hs1 : t1.size ≤ 4 := by
  have := L_len t1
  rw [ht1] at this
  have h2 := HZL.out
  omega
 clear ht1 hb1 HBL hHeld
 refine hK.out _ _ (HSX.out _ (HBX.out.block _ HZ1.out)) (fun hHeld => ?_)
 clear hK K
 refine take_at 4 (some 24) rfl rfl (by kernel_rfl) (by kernel_rfl) (by kernel_rfl) (fun _ _ _ h => h) (Or.inl ⟨by rfl, fun w hSw => by (go_simp; rw [if_neg (by omega)])⟩) hHeld ?_
 simp only [Act.put, sA, sZ, sS]
 refine take_at 5 (some 25) rfl rfl (by kernel_rfl) (by kernel_rfl) (by kernel_rfl) (fun _ _ _ h => h) (Or.inl ⟨by rfl, fun w hSw => by (go_simp; rw [if_neg (by omega)])⟩) hHeld ?_
 simp only [Act.put, sA, sZ, sS]
 refine wpAnyH_ready (rs := [8]) (by kernel_rfl) (by simp) ?_
 refine AllReadyH.cons rfl (fun K hK => ?_) AllReadyH.nil
 go_simp
 refine (HBH.out _).mono ?_
 rintro e u2 ⟨⟨t2, rfl, ht2⟩, hb2⟩
 have HT2 := Lib.hid ht2
 replace HI := Lib.hid (isb_below HI.out hb2)
 replace HBX := Lib.hid (HBX.out.trans (hb2.mono HBX.out.size))
 replace HB := Lib.hid (HB.out.trans (hb2.mono HB.out.size))
 have hs2 : t2.size ≤ 4 := by
  have := L_len t2
  rw [ht2] at this
  have h2 := HZH.out
  omega
 clear ht2 hb2 HBH hHeld
 refine hK.out _ _ (HSX.out _ (HBX.out.block _ HZ1.out)) (fun hHeld => ?_)
 clear hK K
 refine take_at 9 (some 29) rfl rfl (by kernel_rfl) (by kernel_rfl) (by kernel_rfl) (fun _ _ _ h => h) (Or.inl ⟨by rfl, fun w hSw => by (go_simp; rw [if_neg (by omega)])⟩) hHeld ?_
 simp only [Act.put, sA, sZ, sS]
 refine take_at 10 (some 30) rfl rfl (by kernel_rfl) (by kernel_rfl) (by kernel_rfl) (fun _ _ _ h => h) (Or.inl ⟨by rfl, fun w hSw => by (go_simp; rw [if_neg (by omega)])⟩) hHeld ?_
 simp only [Act.put, sA, sZ, sS]
 refine wpAnyH_ready (rs := [11]) (by kernel_rfl) (by simp) ?_
 refine AllReadyH.cons rfl (fun K hK => ?_) AllReadyH.nil
 go_simp
 refine (ws_any b l _ w0 u2 HI.out HB.out ?hlen).mono ?_
 case hlen =>
  have h2 := HL.out
  rw [HR.out, ← HT1.out, ← HT2.out] at h2
  rw [← L_len]
  simp only [L_append, List.length_append, List.length_cons, List.length_nil] at h2 ⊢
  have e5 : (L ⟨#[91]⟩).length = 1 := rfl
  have e6 : (L ⟨#[45]⟩).length = 1 := rfl
  have e7 : (L ⟨#[93]⟩).length = 1 := rfl
  omega
 rintro e w3 ⟨rfl, hi3, hb3, hk3⟩
 have HX3 : Hid (w3.heap[w.heap.size]? = w1.heap[w.heap.size]?) := by
  unfold Hid
  rw [HX1.out]
  exact hk3 _ _ _ HNE.out (by decide) ((HBX.out.block _ HZ1.out).trans HX1.out)
 have H3 := Lib.hid (And.intro hi3 (And.intro hb3 (((HK.out.trans (KeepX.below (b := b) HBX.out)).trans hk3))))
 clear hi3 hb3 hk3 hHeld
 refine hK.out _ _ (HSX.out _ HX3.out) (fun hHeld => ?_)
 clear hK K
 refine wpAnyH_done (by kernel_rfl) ?_ _
 clear hHeld
 go_simp
 go_wp2_with fail
 go_end0
 have h3 := H3.out
 simp only [L_append, HT1.out, HT2.out] at h3
 rw [HR.out]
 refine ⟨rfl, ?_, h3.2.1, h3.2.2⟩
 have h4 := h3.1
 have e5 : L ⟨#[91]⟩ = [91] := rfl
 have e6 : L ⟨#[45]⟩ = [45] := rfl
 have e7 : L ⟨#[93]⟩ = [93] := rfl
 simpa [e5, e6, e7] using h4
end Go.Proofs.YtpkecepelcppiaaGreatDoor

namespace Go.Proofs.YtpkecepelcppiaaGreatDoor
open Go.RowKit Go.Shelf
set_option maxHeartbeats 4000000
set_option maxRecDepth 100000

def sepR (op : Int) : List UInt8 := if op = 4 then [124] else if op = 6 then [38] else []
def lstR (op : Int) : Nat := if op = 4 then 2 else if op = 6 then 3 else if op = 5 then 5 else 4
def preR (op : Int) : List UInt8 := if op = 7 then [33] else []
def sufR (op mn mx : Int) : List UInt8 := if op = 5 then bndT mn mx else []
theorem show_kids (d : Nat) (op lo hi mn mx : Int) (l : List RX) (h : op = 3 ∨ op = 4 ∨ op = 5 ∨ op = 6 ∨ op = 7) :
  showR (d + 1) (.mk op lo hi mn mx l) = preR op ++ (joinT (sepR op) (l.map (argT (showR d) (lstR op))) ++ sufR op mn mx) := by
 rcases h with rfl | rfl | rfl | rfl | rfl <;> simp [showR, preR, sepR, lstR, sufR]
theorem join_snoc (s : List UInt8) (x : List UInt8) : ∀ xs : List (List UInt8), joinT s (xs ++ [x]) = joinT s xs ++ ((if xs.length = 0 then [] else s) ++ x)
 | [] => by simp [joinT]
 | [y] => by simp [joinT]
 | y :: z :: t => by
  have h := join_snoc s x (z :: t)
  simp only [List.cons_append] at h ⊢
  simp only [joinT]
  rw [h]
  simp
theorem join_take (s : List UInt8) (xs : List (List UInt8)) (k : Nat) (h : k < xs.length) : joinT s (xs.take (k + 1)) = joinT s (xs.take k) ++ ((if k = 0 then [] else s) ++ xs[k]) := by
 rw [List.take_succ_eq_append_getElem h, join_snoc, List.length_take, Nat.min_eq_left (by omega)]
theorem join_le (s : List UInt8) (xs : List (List UInt8)) (k : Nat) : (joinT s (xs.take k)).length ≤ (joinT s xs).length := by
 by_cases h : k < xs.length
 ·refine Nat.le_trans ?_ (join_le s xs (k + 1))
  rw [join_take s xs k h, List.length_append]
  omega
 ·rw [List.take_of_length_le (by omega)]
  exact Nat.le_refl _
 termination_by xs.length - k
theorem write_node (d b : Nat) (w0 : World) (IH0 : WrC d b w0) (op lo hh mn mx : Int) (l : List RX) (lv : Value) (cs : Nat → PC) (w : World) (t : List UInt8)
  (hop : op = 3 ∨ op = 4 ∨ op = 5 ∨ op = 6 ∨ op = 7) (hbn : op = 5 → 0 ≤ mn ∧ mn ≤ 64 ∧ (mx = -1 ∨ (0 ≤ mx ∧ mx ≤ 64)))
  (hl : SlX w0 lv l.length 6 (fun i => (cs i).cells)) (hL : ∀ i (hi : i < l.length), RdP w0 (cs i) l[i]) (hS : ∀ i (hi : i < l.length), sndR d l[i] = true)
  (hi : IsB w0.heap.size b t w) (hb : Below w0.heap.size w0 w) (hz : t.length + (showR (d + 1) (.mk op lo hh mn mx l)).length ≤ 1000000000) :
  Calls Tryz.prog 99 #[.pointer (some ⟨b, 0, none⟩), aggP ⟨op, lo, hh, mn, mx, lv⟩] w (WrP b w0 (t ++ showR (d + 1) (.mk op lo hh mn mx l)) w) := by
 rw [show_kids d op lo hh mn mx l hop] at hz ⊢
 obtain ⟨M, hM⟩ : ∃ M, M = l.map (argT (showR d) (lstR op)) := ⟨_, rfl⟩
 rw [← hM] at hz ⊢
 have HM : Hid (M.length = l.length ∧ ∀ i (hi : i < l.length) (h2 : i < M.length), M[i] = argT (showR d) (lstR op) l[i]) := by
  subst hM
  exact ⟨by simp, fun i hi h2 => by simp⟩
 have HZ : Hid (t.length + ((preR op).length + ((joinT (sepR op) M).length + (sufR op mn mx).length)) ≤ 1000000000) := by
  unfold Hid
  simpa [List.length_append] using hz
 have HOP := Lib.hid hop
 have HBN := Lib.hid hbn
 have IH := Lib.hid IH0
 have HLI := Lib.hid hL
 have HSI := Lib.hid hS
 have HI := Lib.hid hi
 have HB := Lib.hid hb
 obtain ⟨a, cap, rfl, q1, q2, q3, q4⟩ := hl
 have HA := Lib.hid q4
 have hm : (l.length : Int) ≤ 9223372036854775807 := by simp only [maxLen] at q2; omega
 clear hz hM hop hbn IH0 hL hS hi hb q1 q2 q3 q4
 simp only [aggP]
 go_enter Tryz.func99, Tryz.ntmps99
 go_upto_region 1 with fail
 generalize hW : World.alloc w _ = w1
 obtain ⟨ha1, -, hz1, hb1⟩ := alloc_of hW
 have HX1 := Lib.hid ha1
 have HK := Lib.hid (KeepX.below (b := b) hb1)
 have HNE : Hid (w.heap.size ≠ b) := by
  have h1 : b < w.heap.size := isb_lt HI.out
  unfold Hid
  omega
 replace HI := Lib.hid (isb_below HI.out hb1)
 replace HB := Lib.hid (HB.out.trans (hb1.mono HB.out.size))
 obtain ⟨c0, c1, c2, c3, c4, c5⟩ := row6 ha1
 clear hW hb1 ha1 hz1
 go_upto_block 0 with fail
 go_cut [4, 5] (fun bt ls wx => bt = .string ⟨(sepR op).toArray⟩ ∧ ls = .int .i64 (lstR op : Nat) ∧ Hid (IsB w0.heap.size b (t ++ preR op) wx) ∧ Hid (Below w0.heap.size w0 wx) ∧ Hid (KeepX b w1 wx))
 case first =>
  have hop := HOP.out
  rcases hop with rfl | rfl | rfl | rfl | rfl
  case' inr.inr.inr.inr =>
   go_wp2_with fail
   refine (wb_any b t 33 w0 w1 HI.out HB.out (by have := HZ.out; have e : (preR 7).length = 1 := rfl; omega)).mono ?_
   rintro e w3 ⟨rfl, hi3, hb3, hk3⟩
   have H3 := Lib.hid (And.intro hi3 (And.intro hb3 hk3))
   clear hi3 hb3 hk3
   go_wp2_with fail
   go_meet
   exact ⟨rfl, rfl, H3.out.1, H3.out.2.1, H3.out.2.2⟩
  all_goals
   go_wp2_with fail
   go_meet
   refine ⟨rfl, rfl, ?_, HB.out, KeepX.refl _ _⟩
   show IsB w0.heap.size b (t ++ []) w1
   rw [List.append_nil]
   exact HI.out
 case rest =>
 obtain ⟨rfl, rfl, HI2, HB2, HK2⟩ := hcut
 have HX2 := Lib.hid (HK2.out _ _ _ HNE.out (by decide) HX1.out)
 clear HI HB HX1 c0 c1 c2 c3 c4 c5
 obtain ⟨c0, c1, c2, c3, c4, c5⟩ := row6 HX2.out
 have HK3 := Lib.hid (HK.out.trans HK2.out)
 clear HK HK2
 generalize hsep : sepR op = sp at *
 generalize hlst : lstR op = ls at *
 have HSF := Lib.hid (show sufR op mn mx = if op = 5 then bndT mn mx else [] from rfl)
 generalize sufR op mn mx = suf at *
 generalize preR op = pre at *
 clear hsep hlst
 go_wp2_with fail
 go_loopw [6, 7, 67] (fun _ _ iv wr => ∃ k : Nat, k ≤ l.length ∧ iv = .int .i64 (k : Int) ∧ Hid (IsB w0.heap.size b (t ++ (pre ++ joinT sp (M.take k))) wr) ∧ Hid (Below w0.heap.size w0 wr) ∧ Hid (KeepX b w wr) ∧ Hid (wr.heap[w.heap.size]? = some (.cells #[.int .i64 op, .int .i64 lo, .int .i64 hh, .int .i64 mn, .int .i64 mx, .slice a l.length cap] 45 (0, 0)))) (fun _ _ iv _ => l.length - (intOf iv).toNat)
 case atStart =>
  refine ⟨0, Nat.zero_le _, rfl, ?_, HB2.out, HK3.out, HX2.out⟩
  have := HI2.out
  unfold Hid
  simpa [joinT] using this
 case round =>
  obtain ⟨k, hk, rfl, HIR, HBR, HKR, HXR⟩ := hrel
  clear HI2 HB2 HK3 HX2 c0 c1 c2 c3 c4 c5
  obtain ⟨c0, c1, c2, c3, c4, c5⟩ := row6 HXR.out
  by_cases hlt : k < l.length
  case neg =>
   have hge : ¬ (k : Int) < l.length := by omega
   have hkl : M.length ≤ k := by rw [HM.out.1]; omega
   replace HIR : Hid (IsB w0.heap.size b (t ++ (pre ++ joinT sp M)) wr) := by
    have := HIR.out
    rwa [List.take_of_length_le hkl] at this
   clear hlt hkl
   by_cases e5 : op = 5
   case neg =>
    have e6 : (op == 5) = false := beq_false_of_ne e5
    have HE : Hid (suf = []) := by
     have := HSF.out
     rwa [if_neg e5] at this
    clear e5
    go_wp2_with fail
    go_end0
    refine ⟨rfl, ?_, HBR.out, HKR.out⟩
    rw [HE.out, List.append_nil]
    exact HIR.out
   case pos =>
    have HE : Hid (suf = bndT mn mx) := by
     have := HSF.out
     rwa [if_pos e5] at this
    obtain ⟨h0, h1, h2⟩ := HBN.out e5
    obtain ⟨m, rfl⟩ : ∃ m : Nat, mn = (m : Int) := ⟨mn.toNat, by omega⟩
    have HBD := Lib.hid (fun w' => bounds_any m mx (by omega) h2 w')
    subst e5
    clear h0 h1 h2 HBN
    go_wp2_with fail
    refine (HBD.out _).mono ?_
    rintro e w2 ⟨⟨u, rfl, hu⟩, hb2⟩
    have HU := Lib.hid hu
    replace HKR := Lib.hid (HKR.out.trans (KeepX.below (b := b) hb2))
    replace HIR := Lib.hid (isb_below HIR.out hb2)
    replace HBR := Lib.hid (HBR.out.trans (hb2.mono HBR.out.size))
    have HLU : Hid ((t ++ (pre ++ joinT sp M)).length + u.size ≤ 1000000000) := by
     have h3 := HZ.out
     have h4 := L_len u
     rw [hu] at h4
     rw [HE.out] at h3
     unfold Hid
     simp only [List.length_append]
     omega
    clear hu hb2 HBD
    go_wp2_with fail
    refine (ws_any b _ u w0 w2 HIR.out HBR.out HLU.out).mono ?_
    rintro e w3 ⟨rfl, hi3, hb3, hk3⟩
    have H3 := Lib.hid (And.intro hi3 (And.intro hb3 hk3))
    clear hi3 hb3 hk3
    go_wp2_with fail
    go_end0
    refine ⟨rfl, ?_, H3.out.2.1, HKR.out.trans H3.out.2.2⟩
    have := H3.out.1
    rw [HU.out] at this
    rw [HE.out]
    simpa using this
  case pos =>
   have hlti : (k : Int) < l.length := by omega
   obtain ⟨g, o, rfl, hg, hat⟩ := HA.out (by omega)
   have HRD := Lib.hid (HLI.out k hlt)
   have HSD := Lib.hid (HSI.out k hlt)
   have hMk : k < M.length := by rw [HM.out.1]; exact hlt
   have HJ : Hid (joinT sp (M.take (k + 1)) = joinT sp (M.take k) ++ ((if k = 0 then [] else sp) ++ argT (showR d) ls l[k])) := by
    unfold Hid
    rw [join_take sp M k hMk, HM.out.2 k hlt hMk]
   have HJL := Lib.hid (join_le sp M (k + 1))
   have hc6 : ∀ j, j < 6 → wr.cell? ⟨g, o + k * 6 + j, none⟩ = (cs k).cells[j]? := fun j hj => (HBR.out.cell (p := ⟨g, o + k * 6 + j, none⟩) hg).trans (hat k hlt j hj)
   obtain ⟨J1, hJ1⟩ : ∃ J1, joinT sp (M.take (k + 1)) = J1 := ⟨_, rfl⟩
   rw [hJ1] at HJ HJL
   have HJ1 := Lib.hid hJ1
   clear hJ1
   generalize joinT sp (M.take k) = J0 at *
   generalize l[k] = q at *
   generalize cs k = c at *
   obtain ⟨pa, pcap, hpa⟩ := HRD.out.forms
   generalize q.args.length = pn at *
   obtain ⟨p0, p1, p2, p3, p4, p5⟩ := c
   simp only at hpa
   subst hpa
   clear c0 c1 c2 c3 c4 c5 hat hg hMk
   obtain ⟨c0, c1, c2, c3, c4, c5⟩ := cells6 hc6
   simp only at c0 c1 c2 c3 c4 c5
   clear hc6
   have HLB := Lib.hid (isb_lt HIR.out)
   go_upto_region 24 with fail
   generalize hW : World.alloc wr _ = wa
   obtain ⟨ha1, -, hz1, hb1⟩ := alloc_of hW
   have HY := Lib.hid ha1
   have HNE2 : Hid (wr.heap.size ≠ b) := by
    have := HLB.out
    unfold Hid
    omega
   replace HXR := Lib.hid ((hb1.block _ (Array.getElem?_eq_some_iff.1 HXR.out).1).trans HXR.out)
   replace HKR := Lib.hid (HKR.out.trans (KeepX.below (b := b) hb1))
   replace HIR := Lib.hid (isb_below HIR.out hb1)
   replace HBR := Lib.hid (HBR.out.trans (hb1.mono HBR.out.size))
   clear hW ha1 hz1 hb1 HLB c0 c1 c2 c3 c4 c5
   go_upto_if 73 with fail
   go_cut [74, 75, 76] (fun _ _ _ wx => Hid (IsB w0.heap.size b ((t ++ (pre ++ J0)) ++ (if k = 0 then [] else sp)) wx) ∧ Hid (Below w0.heap.size w0 wx) ∧ Hid (KeepX b wa wx))
   case first =>
    by_cases k0 : k = 0
    ·have k1 : ¬ (0 : Int) < (k : Int) := by omega
     have HK0 := Lib.hid k0
     clear k0
     go_wp2_with fail
     go_meet
     refine ⟨?_, HBR.out, KeepX.refl _ _⟩
     unfold Hid
     rw [if_pos HK0.out, List.append_nil]
     exact HIR.out
    ·have k1 : (0 : Int) < (k : Int) := by omega
     have HK0 := Lib.hid k0
     clear k0
     go_wp2_with fail
     refine (ws_any b _ ⟨sp.toArray⟩ w0 wa HIR.out HBR.out ?hlen).mono ?_
     case hlen =>
      have h1 := HZ.out
      have h2 := HJL.out
      rw [HJ.out, if_neg HK0.out] at h2
      rw [← L_len, L_mk]
      simp only [List.length_append] at h2 ⊢
      omega
     rintro e w3 ⟨rfl, hi3, hb3, hk3⟩
     have H3 := Lib.hid (And.intro hi3 (And.intro hb3 hk3))
     clear hi3 hb3 hk3
     go_wp2_with fail
     go_meet
     refine ⟨?_, H3.out.2.1, H3.out.2.2⟩
     have := H3.out.1
     unfold Hid
     rw [if_neg HK0.out]
     exact this
   case rest =>
   obtain ⟨HIX, HBX, HKX⟩ := hcut
   rename World => wc2
   have HY2 := Lib.hid (HKX.out _ _ _ HNE2.out (by decide) HY.out)
   have HX2 := Lib.hid (HKX.out _ _ _ HNE.out (by decide) HXR.out)
   have HK2 := Lib.hid (HKR.out.trans HKX.out)
   obtain ⟨c0, c1, c2, c3, c4, c5⟩ := row6 HY2.out
   go_wp2_with fail
   refine (arg_of d b w0 IH.out q _ wc2 _ ls HRD.out HSD.out HIX.out HBX.out ?hlen).mono ?_
   case hlen =>
    have h1 := HZ.out
    have h2 := HJL.out
    rw [HJ.out] at h2
    simp only [List.length_append] at h2 ⊢
    omega
   rintro e w3 ⟨rfl, hi3, hb3, hk3⟩
   have HX3 := Lib.hid (hk3 _ _ _ HNE.out (by decide) HX2.out)
   have H3 := Lib.hid (And.intro hi3 (And.intro hb3 hk3))
   clear hi3 hb3 hk3 c0 c1 c2 c3 c4 c5
   go_wp2_with fail
   refine ⟨⟨k + 1, by omega, rfl, ?_, H3.out.2.1, HK2.out.trans H3.out.2.2, HX3.out⟩, by simp [intOf]; omega⟩
   have := H3.out.1
   unfold Hid
   rw [HJ1.out, HJ.out]
   simpa using this
theorem write_any (b : Nat) (w0 : World) : ∀ d, WrC d b w0 := by
 intro d
 induction d with
 | zero =>
  intro p c w l _ hs
  simp [sndR] at hs
 | succ d ih =>
  intro p c w l hp hs hi hb hl
  cases hp with
  | mk op lo hh mn mx ll lv cs hL hR =>
  unfold sndR at hs
  rw [Bool.and_eq_true, List.all_eq_true] at hs
  obtain ⟨hf, hs⟩ := hs
  rw [form_iff] at hf
  by_cases c0 : op = 0
  ·subst c0
   have e : showR (d + 1) (.mk 0 lo hh mn mx ll) = [91, 93] := by simp [showR]
   rw [e] at hl ⊢
   obtain ⟨a, cap, rfl, -⟩ := hL
   exact write_leaf0 b w0 w l lo hh mn mx a _ cap hi hb hl
  by_cases c1 : op = 1
  ·subst c1
   have e : showR (d + 1) (.mk 1 lo hh mn mx ll) = [40, 41] := by simp [showR]
   rw [e] at hl ⊢
   obtain ⟨a, cap, rfl, -⟩ := hL
   exact write_leaf1 b w0 w l lo hh mn mx a _ cap hi hb hl
  by_cases c2 : op = 2
  ·subst c2
   have e : showR (d + 1) (.mk 2 lo hh mn mx ll) = rngT lo hh := by simp [showR]
   rw [e] at hl ⊢
   obtain ⟨a, cap, rfl, -⟩ := hL
   obtain ⟨x, rfl⟩ : ∃ x : Nat, lo = (x : Int) := ⟨lo.toNat, by omega⟩
   obtain ⟨y, rfl⟩ : ∃ y : Nat, hh = (y : Int) := ⟨hh.toNat, by omega⟩
   exact write_rng b w0 w l x y mn mx a _ cap (by omega) (by omega) hi hb hl
  exact write_node d b w0 ih op lo hh mn mx ll lv cs w l (by omega) (by omega) hL hR (fun i h => hs _ (List.getElem_mem h)) hi hb hl
end Go.Proofs.YtpkecepelcppiaaGreatDoor

namespace Go.Proofs.YtpkecepelcppiaaGreatDoor
open Go.RowKit Go.Shelf
set_option maxHeartbeats 4000000
set_option maxRecDepth 100000

theorem Text_any (p : RX) (c : PC) (w : World) (hp : RdP w c p) (hz : valR p = true → (showR 48 p).length ≤ 1000000000) :
  Calls Tryz.prog 67 #[aggP c] w fun e w' => e = .returned (.string ⟨(textR p).toArray⟩) ∧ Below w.heap.size w w' := by
 have HT : Hid (textR p = if valR p then showR 48 p else []) := rfl
 have HZ := Lib.hid hz
 have HP := Lib.hid hp
 have HS : Hid (valR p = true → sndR 48 p = true) := by
  intro h
  unfold valR at h
  rw [Bool.and_eq_true] at h
  exact h.1
 obtain ⟨pa, pcap, hpa⟩ := hp.forms
 clear hp hz
 generalize p.args.length = pn at *
 obtain ⟨p0, p1, p2, p3, p4, p5⟩ := c
 simp only at hpa
 subst hpa
 generalize textR p = T at *
 simp only [aggP]
 go_enter Tryz.func67, Tryz.ntmps67
 go_upto_region 1 with fail
 generalize hW : World.alloc w _ = w1
 obtain ⟨ha1, -, hz1, hb1⟩ := alloc_of hW
 have HX1 := Lib.hid ha1
 replace HP := Lib.hid (HP.out.stays hb1)
 have HB := Lib.hid hb1
 obtain ⟨c0, c1, c2, c3, c4, c5⟩ := row6 ha1
 clear hW ha1 hz1 hb1
 go_wp2_with fail
 refine (PValid_any p _ w1 HP.out).mono ?_
 rintro e w2 ⟨rfl, hb2⟩
 have HX2 := Lib.hid ((hb2.block _ (Array.getElem?_eq_some_iff.1 HX1.out).1).trans HX1.out)
 replace HP := Lib.hid (HP.out.stays hb2)
 replace HB := Lib.hid (HB.out.trans (hb2.mono HB.out.size))
 clear hb2 c0 c1 c2 c3 c4 c5
 obtain ⟨c0, c1, c2, c3, c4, c5⟩ := row6 HX2.out
 generalize valR p = v at *
 cases v with
 | false =>
  go_wp2_with fail
  go_ret
  rw [HT.out]
  exact ⟨rfl, HB.out⟩
 | true =>
  go_upto_region 4 with fail
  have HI := Lib.hid (Lib.fresh_isBuilder 108 5 w2)
  generalize hW : World.alloc w2 _ = w3

  obtain ⟨ha3, -, hz3, hb3⟩ := alloc_of hW
  have HX3 := Lib.hid ((hb3.block _ (Array.getElem?_eq_some_iff.1 HX2.out).1).trans HX2.out)
  have HB3 := Lib.hid hb3
  replace HI : Hid (IsB w2.heap.size w2.heap.size [] w3) := by
   have := HI.out
   rw [hW] at this
   exact this
  clear hW ha3 hz3 hb3 c0 c1 c2 c3 c4 c5
  obtain ⟨c0, c1, c2, c3, c4, c5⟩ := row6 HX3.out
  go_wp2_with fail
  refine (write_any w2.heap.size w2 48 p _ w3 [] HP.out (HS.out (by simp)) HI.out HB3.out (by have := HZ.out (by simp); simpa using this)).mono ?_
  rintro e w4 ⟨rfl, hi4, hb4, hk4⟩
  have H4 := Lib.hid (And.intro hi4 (And.intro hb4 hk4))
  clear hi4 hb4 hk4 c0 c1 c2 c3 c4 c5
  go_wp2_with fail
  refine (String_any _ _ _ w4 H4.out.1 H4.out.2.1.size).mono ?_
  rintro e w5 ⟨rfl, hb5⟩
  have H5 := Lib.hid hb5
  clear hb5
  go_wp2_with fail
  go_ret
  have hT : T = showR 48 p := by
   have := HT.out
   simpa using this
  rw [hT]
  exact ⟨rfl, HB.out.trans ((H4.out.2.1.trans H5.out).mono HB.out.size)⟩
end Go.Proofs.YtpkecepelcppiaaGreatDoor

namespace Go.Proofs.YtpkecepelcppiaaGreatDoor
open Go.RowKit Go.Shelf
set_option maxHeartbeats 4000000
set_option maxRecDepth 100000

def zeroP (op : Int) : PC := ⟨op, 0, 0, 0, 0, .slice none 0 0⟩
theorem zero_rd (N : Nat → Prop) (op : Int) (w : World) : RdQ N w (zeroP op) (.mk op 0 0 0 0 []) :=
 .mk op 0 0 0 0 [] _ (fun _ => zeroP 0) SlX.nil (fun h => absurd h (Nat.lt_irrefl _)) (fun _ h => absurd h (Nat.not_lt_zero _))
theorem none_any (w : World) : Calls Tryz.prog 165 #[] w (Ret (aggP (zeroP 0)) w) := by
 go_enter Tryz.func165, Tryz.ntmps165
 go_wp2_with fail
 generalize hW : World.alloc w _ = w1
 obtain ⟨ha1, -, hz1, hb1⟩ := alloc_of hW
 obtain ⟨z0, z1, z2, z3, z4, z5⟩ := row6 ha1
 exact bodyPost_ret (v := aggP (zeroP 0)) (by simp [results, Tryz.results165, go_sem, zeroP, z0, z1, z2, z3, z4, z5]) rfl ⟨rfl, hb1⟩
theorem empty_any (w : World) : Calls Tryz.prog 164 #[] w (Ret (aggP (zeroP 1)) w) := by
 go_enter Tryz.func164, Tryz.ntmps164
 go_wp2_with fail
 generalize hW : World.alloc w _ = w1
 obtain ⟨ha1, -, hz1, hb1⟩ := alloc_of hW
 obtain ⟨z0, z1, z2, z3, z4, z5⟩ := row6 ha1
 exact bodyPost_ret (v := aggP (zeroP 1)) (by simp [results, Tryz.results164, go_sem, zeroP, z0, z1, z2, z3, z4, z5]) rfl ⟨rfl, hb1⟩
end Go.Proofs.YtpkecepelcppiaaGreatDoor

namespace Go.Proofs.YtpkecepelcppiaaGreatDoor
open Go.RowKit Go.Shelf
set_option maxHeartbeats 4000000
set_option maxRecDepth 100000

theorem RdQ.stay {N : Nat → Prop} {w w' : World} {c : PC} {p : RX} (h : RdQ N w c p) (hb : Below w.heap.size w w') : RdQ N w' c p := h.keep (fun g _ hg => hb.block g hg)
theorem set6 {w : World} {b : Nat} {t : TypeId} {y0 y1 y2 y3 y4 y5 : Value} (h : w.heap[b]? = some (.cells [y0, y1, y2, y3, y4, y5].toArray t (0, 0))) (x0 x1 x2 x3 x4 x5 : Value) {w4 : World}
  (he : ((((((w.setCell ⟨b, 0, none⟩ x0).setCell ⟨b, 1, none⟩ x1).setCell ⟨b, 2, none⟩ x2).setCell ⟨b, 3, none⟩ x3).setCell ⟨b, 4, none⟩ x4).setCell ⟨b, 5, none⟩ x5) = w4) :
  w4.heap[b]? = some (.cells [x0, x1, x2, x3, x4, x5].toArray t (0, 0)) ∧ Below b w w4 := by
 subst he
 have h0 := heap_setCell_same w b 0 _ t x0 h
 have h1 := heap_setCell_same _ b 1 _ t x1 h0
 have h2 := heap_setCell_same _ b 2 _ t x2 h1
 have h3 := heap_setCell_same _ b 3 _ t x3 h2
 have h4 := heap_setCell_same _ b 4 _ t x4 h3
 have h5 := heap_setCell_same _ b 5 _ t x5 h4
 refine ⟨h5, ?_⟩
 have k : ∀ (u : World) (i : Nat) (x : Value), Below b w u → Below b w (u.setCell ⟨b, i, none⟩ x) := fun u i x hu => hu.setCell (p := ⟨b, i, none⟩) (Nat.le_refl _) x
 exact k _ _ _ (k _ _ _ (k _ _ _ (k _ _ _ (k _ _ _ (k _ _ _ (Below.refl _ _))))))
end Go.Proofs.YtpkecepelcppiaaGreatDoor

namespace Go.Proofs.YtpkecepelcppiaaGreatDoor
open Go.RowKit Go.Shelf
set_option maxHeartbeats 4000000
set_option maxRecDepth 100000

theorem wp_append_at {P : Program} {o : Oper} {a : Act} {w : World} {K : Act → World → Prop} {Q : Exit → Act → World → Prop} (s x : Operand) (t : TypeId)
  (ho : o.op = .call { callee := .builtin .append, args := #[s, x], argTypes := #[t, t] })
  (base : Nat) (e : TypeId) (i : TypeInfo) (z : Value) (size bytes : Nat) (ht : P.underlying t = some (.slice e)) (hi : P.info? e = some i) (hz : i.zero = some z)
  (hsize : i.size = size) (hby : i.bytes = bytes) (hzs : z.cells.size = size) (hsz : 0 < size)
  (v : Value) (n : Nat) (xs : List Value) (hs : a.eval s = v) (hown : w.ownsRow base e size v n xs)
  (ad : Addr) (m c : Nat) (news : List Value) (hx : a.eval x = .slice (some ad) m c) (hl : news.length = m * size) (hnews : ∀ j u, news[j]? = some u → w.cell? (ad.add j) = some u) (h1 : ∀ u ∈ news, u.oneCell' = true)
  (h63 : n + m ≤ maxLen) (hbytes : (n + m) * bytes ≤ 140737488355328) (hbase : base ≤ w.heap.size)
  (h : ∀ v' w', w'.ownsRow base e size v' (n + m) (xs ++ news) → w.grownBy w' v.ownBlock → (v'.ownBlock = v.ownBlock ∨ v'.ownBlock = some w.heap.size) → K (a.put o.dst v') w') : o.wp P a w K Q := by
 obtain ⟨v', w', hr, h2, h3, h4, h5⟩ := run_append_own_at (P := P) w base t o.type e i z size bytes ht hi hz hsize hby hzs hsz v n xs hown ad m c news hl hnews h1 h63 hbytes hbase
 unfold Oper.wp execOp
 simp only [ho, resolve, invoke, builtin, Sem.run_bind, Sem.run_pure, Result.andThen_ok, List.map_toArray, List.map_cons, List.map_nil, hs, hx, hr]
 exact h v' w' h2 h3 h5
theorem elemP : Elem Tryz.prog 43 45 6 :=
 elem_of (z := .agg #[.int .i64 0, .int .i64 0, .int .i64 0, .int .i64 0, .int .i64 0, .slice none 0 0]) (bytes := 64) Tryz.underlying43 (by kernel_rfl) (by decide) (by decide) rfl
end Go.Proofs.YtpkecepelcppiaaGreatDoor

namespace Go.Proofs.YtpkecepelcppiaaGreatDoor
open Go.RowKit Go.Shelf
set_option maxHeartbeats 4000000
set_option maxRecDepth 100000

def PrsAt (g : Nat) (s : ByteArray) (i dp : Nat) (w : World) : Prop := w.heap[g]? = some (.cells [.string s, .int .i64 (i : Int), .int .i64 (dp : Int)].toArray 93 (0, 0))
structure PK (g : Nat) (w w' : World) : Prop where
 bel : Below g w w'
 keep : ∀ x, x ≠ g → x < w.heap.size → w'.heap[x]? = w.heap[x]?
theorem PK.of_below {g : Nat} {w w' : World} (h : Below w.heap.size w w') (hg : g ≤ w.heap.size) : PK g w w' := ⟨h.mono hg, fun x _ hx => h.block x hx⟩
theorem PK.trans {g : Nat} {w w1 w2 : World} (h : PK g w w1) (k : PK g w1 w2) : PK g w w2 :=
 ⟨h.bel.trans k.bel, fun x hx hl => (k.keep x hx (Nat.lt_of_lt_of_le hl h.bel.size)).trans (h.keep x hx hl)⟩
theorem PrsAt.setAt {g : Nat} {s : ByteArray} {i dp : Nat} {w : World} (h : PrsAt g s i dp w) : PrsAt g s (i + 1) dp (w.setCell ⟨g, 1, none⟩ (.int .i64 ((i : Int) + 1))) :=
 heap_setCell_same w g 1 _ _ (.int .i64 ((i : Int) + 1)) h
theorem PrsAt.setDp {g : Nat} {s : ByteArray} {i dp : Nat} {w : World} (h : PrsAt g s i dp w) : PrsAt g s i (dp + 1) (w.setCell ⟨g, 2, none⟩ (.int .i64 ((dp : Int) + 1))) :=
 heap_setCell_same w g 2 _ _ (.int .i64 ((dp : Int) + 1)) h
theorem PK.setCell (g i : Nat) (w : World) (v : Value) : PK g w (w.setCell ⟨g, i, none⟩ v) :=
 ⟨(Below.refl g w).setCell (p := ⟨g, i, none⟩) (Nat.le_refl _) v, fun x hx _ => Below.heap_setCell w ⟨g, i, none⟩ v x hx⟩
def pkR : List UInt8 → Int
 | [] => -1
 | c :: _ => c.toNat
theorem drop_cons (s : ByteArray) (i : Nat) (h : i < s.size) : (L s).drop i = s[i] :: (L s).drop (i + 1) := by
 have hl : i < (L s).length := by rw [L_len]; exact h
 rw [List.drop_eq_getElem_cons hl]
 rfl
theorem row3 {w : World} {g : Nat} {t : TypeId} {a b c : Value} (h : w.heap[g]? = some (.cells [a, b, c].toArray t (0, 0))) :
  w.cell? ⟨g, 0, none⟩ = some a ∧ w.cell? ⟨g, 1, none⟩ = some b ∧ w.cell? ⟨g, 2, none⟩ = some c :=
 ⟨(cell_of_row w g _ _ t (0, 0) h).trans rfl, (cell_of_row w g _ _ t (0, 0) h).trans rfl, (cell_of_row w g _ _ t (0, 0) h).trans rfl⟩
theorem peek_any (g : Nat) (s : ByteArray) (i dp : Nat) (w : World) (h : PrsAt g s i dp w) (hi : i ≤ s.size) :
  Calls Tryz.prog 130 #[.pointer (some ⟨g, 0, none⟩)] w fun e w' => e = .returned (.int .i64 (pkR ((L s).drop i))) ∧ PrsAt g s i dp w' ∧ Below w.heap.size w w' := by
 obtain ⟨c0, c1, c2⟩ := row3 h
 by_cases hlt : i < s.size
 ·have hlti : (i : Int) < s.size := by omega
  have HR : Hid (pkR ((L s).drop i) = ((s[i]'hlt).toNat : Int)) := by unfold Hid; rw [drop_cons s i hlt]; rfl
  have HH := Lib.hid h
  clear h hi
  generalize pkR ((L s).drop i) = r at *
  go_enter Tryz.func130, Tryz.ntmps130
  go_upto_region 1 with fail
  go_quiet (fail)
  go_upto_region 2 with fail
  go_quiet (fail)
  go_wp2_with fail
  go_ret
  have hw : wrap64 (((s[i]'hlt).toNat : Nat) : Int) = ((s[i]'hlt).toNat : Int) := by
   have := (s[i]'hlt).toNat_lt
   unfold wrap64
   omega
  refine ⟨?_, HH.out, rfl, rfl, rfl, Nat.le_refl _, fun _ _ => rfl⟩
  rw [HR.out]
  exact congrArg (fun x => Ending.returned (.int .i64 x)) hw
 ·have hge : ¬ (i : Int) < s.size := by omega
  have HR : Hid (pkR ((L s).drop i) = -1) := by
   unfold Hid
   rw [List.drop_of_length_le (by rw [L_len]; omega)]
   rfl
  have HH := Lib.hid h
  clear h hi hlt
  generalize pkR ((L s).drop i) = r at *
  go_enter Tryz.func130, Tryz.ntmps130
  go_upto_region 1 with fail
  go_quiet (fail)
  go_wp2_with fail
  go_ret
  exact ⟨by rw [HR.out]; rfl, HH.out, rfl, rfl, rfl, Nat.le_refl _, fun _ _ => rfl⟩
def tkR (c : UInt8) (l : List UInt8) : Bool := l.head? == some c
theorem tk_pk (c : UInt8) (l : List UInt8) : (pkR l == (c.toNat : Int)) = tkR c l := by
 cases l with
 | nil =>
  show ((-1 : Int) == (c.toNat : Int)) = false
  exact beq_false_of_ne (by omega)
 | cons x t =>
  show ((x.toNat : Int) == (c.toNat : Int)) = (some x == some c)
  by_cases h : x = c
  ·subst h
   simp
  ·have h2 : (x.toNat : Int) ≠ c.toNat := by
    intro h3
    exact h (UInt8.toNat.inj (by omega))
   rw [beq_false_of_ne h2]
   simp [h]
theorem tk_lt (c : UInt8) (s : ByteArray) (i : Nat) (h : tkR c ((L s).drop i) = true) : i < s.size := by
 rcases Nat.lt_or_ge i s.size with h1 | h1
 ·exact h1
 ·rw [List.drop_of_length_le (by rw [L_len]; omega)] at h
  simp [tkR] at h
theorem take_any (c : UInt8) (g : Nat) (s : ByteArray) (i dp : Nat) (w : World) (h : PrsAt g s i dp w) (hi : i ≤ s.size) (hs : s.size ≤ 1000000000) :
  Calls Tryz.prog 127 #[.pointer (some ⟨g, 0, none⟩), .int .u8 (c.toNat : Int)] w fun e w' => e = .returned (.bool (tkR c ((L s).drop i))) ∧ PrsAt g s (if tkR c ((L s).drop i) then i + 1 else i) dp w' ∧ PK g w w' := by
 have HP := Lib.hid (peek_any g s i dp w h hi)
 have hb := tk_pk c ((L s).drop i)
 have hgl : g < w.heap.size := (Array.getElem?_eq_some_iff.1 h).1
 have HG := Lib.hid hgl
 have hc : (c.toNat : Int) ≤ 255 := by have := c.toNat_lt; omega
 generalize (L s).drop i = l at *
 generalize tkR c l = t at *
 generalize pkR l = r at *
 clear h hgl
 go_enter Tryz.func127, Tryz.ntmps127
 go_wp2_with fail
 refine HP.out.mono ?_
 rintro e w1 ⟨rfl, hx, hb1⟩
 have HX := Lib.hid hx
 have HK := Lib.hid (PK.of_below hb1 (Nat.le_of_lt HG.out))
 obtain ⟨c0, c1, c2⟩ := row3 hx
 have hfz : w1.frozen? ⟨g, 1, none⟩ = false := Lib.frozen_of_heap hx 1
 clear hx hb1 HP
 cases t with
 | false =>
  go_wp2_with fail
  go_ret
  exact ⟨rfl, HX.out, HK.out⟩
 | true =>
  go_wp2_with fail
  go_ret
  exact ⟨rfl, HX.out.setAt, HK.out.trans (PK.setCell _ _ _ _)⟩
def Wrg (e : Ending) : Prop := ∃ v : Value, e = .panicked [{ v := .iface 97 v, recovered := false }]
def OkP (g : Nat) (w : World) (t : Bool) (A : World → Prop) (v : Value) (e : Ending) (w' : World) : Prop := PK g w w' ∧ if t then e = .returned v ∧ A w' else Wrg e
theorem OkP.no {g : Nat} {w w' : World} {A : World → Prop} {v u : Value} (h : PK g w w') : OkP g w false A v (.panicked [{ v := .iface 97 u, recovered := false }]) w' := ⟨h, ⟨u, rfl⟩⟩
theorem need_any (c : UInt8) (g : Nat) (s : ByteArray) (i dp : Nat) (w : World) (h : PrsAt g s i dp w) (hi : i ≤ s.size) (hs : s.size ≤ 1000000000) :
  Calls Tryz.prog 153 #[.pointer (some ⟨g, 0, none⟩), .int .u8 (c.toNat : Int)] w (OkP g w (tkR c ((L s).drop i)) (PrsAt g s (i + 1) dp) (.tuple #[])) := by
 have HP := Lib.hid (take_any c g s i dp w h hi hs)
 generalize (L s).drop i = l at *
 generalize tkR c l = t at *
 clear h
 go_enter Tryz.func153, Tryz.ntmps153
 go_wp2_with fail
 refine HP.out.mono ?_
 rintro e w1 ⟨rfl, hx, hk⟩
 have HX := Lib.hid (And.intro hx hk)
 clear hx hk HP
 cases t with
 | false =>
  go_wp2_with fail
  exact ⟨rfl, OkP.no HX.out.2⟩
 | true =>
  go_wp2_with fail
  go_end0
  exact ⟨HX.out.2, rfl, HX.out.1⟩
theorem enter_any (g : Nat) (s : ByteArray) (i dp : Nat) (w : World) (h : PrsAt g s i dp w) (hd : dp ≤ 1000) :
  Calls Tryz.prog 129 #[.pointer (some ⟨g, 0, none⟩)] w (OkP g w (decide (dp + 1 ≤ 96)) (PrsAt g s i (dp + 1)) (.tuple #[])) := by
 obtain ⟨t, ht⟩ : ∃ t, t = decide (dp + 1 ≤ 96) := ⟨_, rfl⟩
 rw [← ht]
 have HT := Lib.hid ht
 clear ht
 have HX := Lib.hid h
 obtain ⟨c0, c1, c2⟩ := row3 h
 have hfz : w.frozen? ⟨g, 2, none⟩ = false := Lib.frozen_of_heap h 2
 clear h
 have HD := Lib.hid hd
 by_cases h96 : dp + 1 ≤ 96
 ·have h1 : ¬ (96 : Int) < (dp : Int) + 1 := by omega
  have HC := Lib.hid h96
  clear h96
  go_enter Tryz.func129, Tryz.ntmps129
  go_wp2_with fail
  go_end0
  rw [HT.out, decide_eq_true HC.out]
  exact ⟨PK.setCell _ _ _ _, rfl, HX.out.setDp⟩
 ·have h1 : (96 : Int) < (dp : Int) + 1 := by omega
  have HC := Lib.hid h96
  clear h96
  go_enter Tryz.func129, Tryz.ntmps129
  go_wp2_with fail
  rw [HT.out, decide_eq_false HC.out]
  exact ⟨rfl, OkP.no (PK.setCell _ _ _ _)⟩
def m3R : List UInt8 → Bool
 | [] => false
 | c :: _ => c != 124 && (c != 38 && c != 41)
theorem more_tk (c : UInt8) (k : Int) (hk : (k = 1 ∧ c = 124) ∨ (k = 2 ∧ c = 38)) (g : Nat) (s : ByteArray) (i dp : Nat) (w : World) (h : PrsAt g s i dp w) (hi : i ≤ s.size) (hs : s.size ≤ 1000000000) :
  Calls Tryz.prog 98 #[.pointer (some ⟨g, 0, none⟩), .int .i64 k] w fun e w' => e = .returned (.bool (tkR c ((L s).drop i))) ∧ PrsAt g s (if tkR c ((L s).drop i) then i + 1 else i) dp w' ∧ PK g w w' := by
 have HP := Lib.hid (take_any c g s i dp w h hi hs)
 generalize (L s).drop i = l at *
 generalize hj : (if tkR c l then i + 1 else i) = j at *
 clear hj
 generalize tkR c l = t at *
 clear h
 rcases hk with ⟨rfl, rfl⟩ | ⟨rfl, rfl⟩
 all_goals
  go_enter Tryz.func98, Tryz.ntmps98
  go_wp2_with fail
  refine HP.out.mono ?_
  rintro e w1 ⟨rfl, hx, hk⟩
  have HX := Lib.hid (And.intro hx hk)
  clear hx hk HP
  go_wp2_with fail
  go_ret
  exact ⟨rfl, HX.out.1, HX.out.2⟩
theorem more_pk (g : Nat) (s : ByteArray) (i dp : Nat) (w : World) (h : PrsAt g s i dp w) (hi : i ≤ s.size) :
  Calls Tryz.prog 98 #[.pointer (some ⟨g, 0, none⟩), .int .i64 3] w fun e w' => e = .returned (.bool (m3R ((L s).drop i))) ∧ PrsAt g s i dp w' ∧ PK g w w' := by
 have HP := Lib.hid (peek_any g s i dp w h hi)
 have HG := Lib.hid (Array.getElem?_eq_some_iff.1 h).1
 generalize (L s).drop i = l at *
 obtain ⟨t, ht⟩ : ∃ t, t = m3R l := ⟨_, rfl⟩
 rw [← ht]
 have HT := Lib.hid ht
 clear ht h
 go_enter Tryz.func98, Tryz.ntmps98
 go_wp2_with fail
 refine HP.out.mono ?_
 rintro e w1 ⟨rfl, hx, hb⟩
 have HX := Lib.hid (And.intro hx (PK.of_below hb (Nat.le_of_lt HG.out)))
 clear hx hb HP HG
 cases l with
 | nil =>
  have HF : Hid (t = false) := HT.out
  have hr : pkR [] = -1 := rfl
  rw [hr]
  clear hr HT
  go_wp2_with fail
  go_ret
  rw [HF.out]
  exact ⟨rfl, HX.out.1, HX.out.2⟩
 | cons c l =>
  have hr : pkR (c :: l) = (c.toNat : Int) := rfl
  rw [hr]
  have h0 : (0 : Int) ≤ (c.toNat : Int) := by omega
  have HC : ∀ n : UInt8, ((c.toNat : Int) != (n.toNat : Int)) = (c != n) := by
   intro n
   by_cases h : c = n
   ·subst h
    simp
   ·have h2 : (c.toNat : Int) ≠ n.toNat := fun h3 => h (UInt8.toNat.inj (by omega))
    rw [bne_iff_ne.2 h2, bne_iff_ne.2 h]
  have c1 := HC 124
  have c2 := HC 38
  have c3 := HC 41
  have n1 : (((124 : UInt8).toNat : Nat) : Int) = 124 := rfl
  have n2 : (((38 : UInt8).toNat : Nat) : Int) = 38 := rfl
  have n3 : (((41 : UInt8).toNat : Nat) : Int) = 41 := rfl
  rw [n1] at c1
  rw [n2] at c2
  rw [n3] at c3
  have HF : Hid (t = (c != 124 && (c != 38 && c != 41))) := HT.out
  clear HC n1 n2 n3 hr HT
  generalize (c.toNat : Int) = r at *
  generalize (c != 124) = b1 at *
  generalize (c != 38) = b2 at *
  generalize (c != 41) = b3 at *
  cases b1 <;> cases b2 <;> cases b3
  all_goals
   go_wp2_with fail
   go_ret
   rw [HF.out]
   exact ⟨rfl, HX.out.1, HX.out.2⟩
end Go.Proofs.YtpkecepelcppiaaGreatDoor

namespace Go.Proofs.YtpkecepelcppiaaGreatDoor
open Go.RowKit Go.Shelf
set_option maxHeartbeats 4000000
set_option maxRecDepth 100000

def PrsL (g : Nat) (s : ByteArray) (l : List UInt8) (dp : Nat) (w : World) : Prop := ∃ i, i ≤ s.size ∧ l = (L s).drop i ∧ PrsAt g s i dp w
theorem PrsL.lt {g : Nat} {s : ByteArray} {l : List UInt8} {dp : Nat} {w : World} (h : PrsL g s l dp w) : g < w.heap.size := by
 obtain ⟨i, _, _, h⟩ := h
 exact (Array.getElem?_eq_some_iff.1 h).1
theorem PrsL.len {g : Nat} {s : ByteArray} {l : List UInt8} {dp : Nat} {w : World} (h : PrsL g s l dp w) : l.length ≤ s.size := by
 obtain ⟨i, _, rfl, _⟩ := h
 rw [List.length_drop, L_len]
 omega
theorem PrsL.below {g : Nat} {s : ByteArray} {l : List UInt8} {dp : Nat} {w w' : World} (h : PrsL g s l dp w) (hb : Below w.heap.size w w') : PrsL g s l dp w' := by
 have hl := h.lt
 obtain ⟨i, h1, h2, h3⟩ := h
 exact ⟨i, h1, h2, (hb.block g hl).trans h3⟩
theorem peek_l (g : Nat) (s : ByteArray) (l : List UInt8) (dp : Nat) (w : World) (h : PrsL g s l dp w) :
  Calls Tryz.prog 130 #[.pointer (some ⟨g, 0, none⟩)] w fun e w' => e = .returned (.int .i64 (pkR l)) ∧ PrsL g s l dp w' ∧ Below w.heap.size w w' := by
 obtain ⟨i, h1, rfl, h3⟩ := h
 refine (peek_any g s i dp w h3 h1).mono ?_
 rintro e w' ⟨rfl, hx, hb⟩
 exact ⟨rfl, ⟨i, h1, rfl, hx⟩, hb⟩
def tailIf (t : Bool) (l : List UInt8) : List UInt8 := if t then l.tail else l
theorem step_l (g : Nat) (s : ByteArray) (i dp : Nat) (c : UInt8) (w : World) (hi : i ≤ s.size) (h : PrsAt g s (if tkR c ((L s).drop i) then i + 1 else i) dp w) : PrsL g s (tailIf (tkR c ((L s).drop i)) ((L s).drop i)) dp w := by
 unfold tailIf
 split at h
 ·rename_i ht
  have := tk_lt c s i ht
  rw [if_pos ht]
  exact ⟨i + 1, by omega, by rw [List.tail_drop], h⟩
 ·rename_i ht
  rw [if_neg ht]
  exact ⟨i, hi, rfl, h⟩
theorem take_l (c : UInt8) (g : Nat) (s : ByteArray) (l : List UInt8) (dp : Nat) (w : World) (h : PrsL g s l dp w) (hs : s.size ≤ 1000000000) :
  Calls Tryz.prog 127 #[.pointer (some ⟨g, 0, none⟩), .int .u8 (c.toNat : Int)] w fun e w' => e = .returned (.bool (tkR c l)) ∧ PrsL g s (tailIf (tkR c l) l) dp w' ∧ PK g w w' := by
 obtain ⟨i, h1, rfl, h3⟩ := h
 refine (take_any c g s i dp w h3 h1 hs).mono ?_
 rintro e w' ⟨rfl, hx, hb⟩
 exact ⟨rfl, step_l g s i dp c w' h1 hx, hb⟩
theorem need_l (c : UInt8) (g : Nat) (s : ByteArray) (l : List UInt8) (dp : Nat) (w : World) (h : PrsL g s l dp w) (hs : s.size ≤ 1000000000) :
  Calls Tryz.prog 153 #[.pointer (some ⟨g, 0, none⟩), .int .u8 (c.toNat : Int)] w (OkP g w (tkR c l) (PrsL g s l.tail dp) (.tuple #[])) := by
 obtain ⟨i, h1, rfl, h3⟩ := h
 refine (need_any c g s i dp w h3 h1 hs).mono ?_
 rintro e w' ⟨hb, hx⟩
 refine ⟨hb, ?_⟩
 split at hx
 ·rename_i ht
  rw [if_pos ht]
  have := tk_lt c s i ht
  exact ⟨hx.1, i + 1, by omega, by rw [List.tail_drop], hx.2⟩
 ·rename_i ht
  rw [if_neg ht]
  exact hx
theorem enter_l (g : Nat) (s : ByteArray) (l : List UInt8) (dp : Nat) (w : World) (h : PrsL g s l dp w) (hd : dp ≤ 1000) :
  Calls Tryz.prog 129 #[.pointer (some ⟨g, 0, none⟩)] w (OkP g w (decide (dp + 1 ≤ 96)) (PrsL g s l (dp + 1)) (.tuple #[])) := by
 obtain ⟨i, h1, rfl, h3⟩ := h
 refine (enter_any g s i dp w h3 hd).mono ?_
 rintro e w' ⟨hb, hx⟩
 refine ⟨hb, ?_⟩
 split at hx
 ·rename_i ht
  rw [if_pos ht]
  exact ⟨hx.1, i, h1, rfl, hx.2⟩
 ·rename_i ht
  rw [if_neg ht]
  exact hx
theorem more_l1 (c : UInt8) (k : Int) (hk : (k = 1 ∧ c = 124) ∨ (k = 2 ∧ c = 38)) (g : Nat) (s : ByteArray) (l : List UInt8) (dp : Nat) (w : World) (h : PrsL g s l dp w) (hs : s.size ≤ 1000000000) :
  Calls Tryz.prog 98 #[.pointer (some ⟨g, 0, none⟩), .int .i64 k] w fun e w' => e = .returned (.bool (tkR c l)) ∧ PrsL g s (tailIf (tkR c l) l) dp w' ∧ PK g w w' := by
 obtain ⟨i, h1, rfl, h3⟩ := h
 refine (more_tk c k hk g s i dp w h3 h1 hs).mono ?_
 rintro e w' ⟨rfl, hx, hb⟩
 exact ⟨rfl, step_l g s i dp c w' h1 hx, hb⟩
theorem more_l3 (g : Nat) (s : ByteArray) (l : List UInt8) (dp : Nat) (w : World) (h : PrsL g s l dp w) :
  Calls Tryz.prog 98 #[.pointer (some ⟨g, 0, none⟩), .int .i64 3] w fun e w' => e = .returned (.bool (m3R l)) ∧ PrsL g s l dp w' ∧ PK g w w' := by
 obtain ⟨i, h1, rfl, h3⟩ := h
 refine (more_pk g s i dp w h3 h1).mono ?_
 rintro e w' ⟨rfl, hx, hb⟩
 exact ⟨rfl, ⟨i, h1, rfl, hx⟩, hb⟩
theorem moreP_tk (c : UInt8) (l : List UInt8) : moreP (some c) l = if tkR c l then some l.tail else none := by
 cases l with
 | nil => rfl
 | cons x t =>
  unfold moreP tkR
  by_cases h : x = c <;> simp [h]
theorem moreP_m3 (l : List UInt8) : moreP none l = if m3R l then some l else none := by
 cases l with
 | nil => rfl
 | cons x t =>
  unfold moreP m3R
  by_cases h1 : x = 124 <;> by_cases h2 : x = 38 <;> by_cases h3 : x = 41 <;> simp [h1, h2, h3]
theorem needP_tk (c : UInt8) (l : List UInt8) : needP c l = if tkR c l then some l.tail else none := by
 cases l with
 | nil => rfl
 | cons x t =>
  unfold needP tkR
  by_cases h : x = c <;> simp [h]
end Go.Proofs.YtpkecepelcppiaaGreatDoor

namespace Go.Proofs.YtpkecepelcppiaaGreatDoor
open Go.RowKit Go.Shelf
set_option maxHeartbeats 4000000
set_option maxRecDepth 100000

def OkO {α : Type} (g : Nat) (w : World) (o : Option (α × List UInt8)) (V : α → Value) (s : ByteArray) (dp : Nat) (e : Ending) (w' : World) : Prop :=
 PK g w w' ∧ match o with
  | some x => e = .returned (V x.1) ∧ PrsL g s x.2 dp w'
  | none => Wrg e
def dgR : List UInt8 → Bool
 | [] => false
 | c :: _ => decide (48 ≤ c.toNat ∧ c.toNat ≤ 57)
theorem dg_pk (l : List UInt8) : dgR l = decide (48 ≤ pkR l ∧ pkR l ≤ 57) := by
 cases l with
 | nil => rfl
 | cons c t =>
  show decide _ = decide ((48 : Int) ≤ (c.toNat : Int) ∧ (c.toNat : Int) ≤ 57)
  rw [decide_eq_decide]
  omega
theorem numP3_dg (k m : Nat) (l : List UInt8) (h : dgR l = true) : numP3 (k + 1) m l = numP3 k (10 * m + ((pkR l).toNat - 48)) l.tail := by
 cases l with
 | nil => simp [dgR] at h
 | cons c t =>
  simp only [dgR, decide_eq_true_eq] at h
  rw [numP3, if_pos h]
  rfl
theorem numP3_no (k m : Nat) (l : List UInt8) (h : k = 0 ∨ dgR l = false) : numP3 k m l = (m, l) := by
 cases k with
 | zero => rfl
 | succ k =>
  cases l with
  | nil => rfl
  | cons c t =>
   have h2 : ¬ (48 ≤ c.toNat ∧ c.toNat ≤ 57) := by
    rcases h with h | h
    ·omega
    ·simpa [dgR] using h
   rw [numP3, if_neg h2]
theorem numPR_dg (l : List UInt8) : numPR l = if dgR l then some (numP3 3 0 l) else none := by
 cases l with
 | nil => rfl
 | cons c t =>
  unfold numPR dgR
  by_cases h : 48 ≤ c.toNat ∧ c.toNat ≤ 57 <;> simp [h]
theorem number_l (g : Nat) (s : ByteArray) (l : List UInt8) (dp : Nat) (w : World) (h : PrsL g s l dp w) (hs : s.size ≤ 1000000000) :
  Calls Tryz.prog 152 #[.pointer (some ⟨g, 0, none⟩)] w (OkO g w (numPR l) (fun n => .int .i64 (n : Int)) s dp) := by
 have HN := Lib.hid (numPR_dg l)
 have HS := Lib.hid hs
 have H0 := Lib.hid h
 generalize numPR l = o at *
 clear hs h
 go_enter Tryz.func152, Tryz.ntmps152
 go_wp2_with fail
 go_loopw [3, 4] (fun nv kv wr => ∃ (kk m : Nat) (t : List UInt8), kk ≤ 3 ∧ nv = .int .i64 (m : Int) ∧ kv = .int .i64 (kk : Int) ∧ m ≤ 999 ∧ Hid (PrsL g s t dp wr) ∧ Hid (PK g w wr) ∧ Hid (numP3 (3 - kk) m t = numP3 3 0 l ∧ (kk = 0 → t = l ∧ m = 0) ∧ (kk ≤ 1 → m ≤ 9) ∧ (kk ≤ 2 → m ≤ 99) ∧ (0 < kk → dgR l = true))) (fun _ kv _ => 3 - (intOf kv).toNat)
 case atStart =>
  exact ⟨0, 0, l, by omega, rfl, rfl, by omega, H0.out, ⟨Below.refl _ _, fun _ _ _ => rfl⟩, rfl, fun _ => ⟨rfl, rfl⟩, by omega, by omega, by omega⟩
 case round =>
  obtain ⟨kk, m, t, hk3, rfl, rfl, hm, HP, HK, HF⟩ := hrel
  clear H0
  go_upto_region 2 with fail
  go_cut [16] (fun v wx => v = .bool (decide (kk < 3) && dgR t) ∧ Hid (PrsL g s t dp wx) ∧ Hid (PK g w wx))
  case first =>
   have HDG := Lib.hid (dg_pk t)
   by_cases k3 : kk < 3
   case neg =>
    have e1 : ¬ (kk : Int) < 3 := by omega
    have HK3 : Hid ((decide (kk < 3) && dgR t) = false) := by unfold Hid; rw [decide_eq_false k3]; rfl
    clear k3
    go_wp2_with fail
    go_meet
    exact ⟨by rw [HK3.out], HP.out, HK.out⟩
   case pos =>
    have e1 : (kk : Int) < 3 := by omega
    have HK3 : Hid ((decide (kk < 3) && dgR t) = decide (48 ≤ pkR t ∧ pkR t ≤ 57)) := by unfold Hid; rw [decide_eq_true k3, ← HDG.out]; rfl
    clear k3 HDG
    generalize (decide (kk < 3) && dgR t) = T at *
    have HQ := Lib.hid (fun w' h => peek_l g s t dp w' h)
    go_wp2_with fail
    refine (peek_l g s t dp _ HP.out).mono ?_
    rintro e w1 ⟨rfl, hx, hb⟩
    have HX := Lib.hid (And.intro hx (HK.out.trans (PK.of_below hb (Nat.le_of_lt HP.out.lt))))
    clear hx hb
    generalize pkR t = r at *
    by_cases r1 : 48 ≤ r
    case neg =>
     replace HK3 : Hid (T = false) := by
      have := HK3.out
      rw [decide_eq_false (fun h => r1 h.1)] at this
      exact this
     go_wp2_with fail
     go_meet
     exact ⟨by rw [HK3.out], HX.out.1, HX.out.2⟩
    case pos =>
     replace HK3 : Hid (T = decide (r ≤ 57)) := by
      have := HK3.out
      unfold Hid
      rw [this, decide_eq_decide]
      exact ⟨fun h => h.2, fun h => ⟨r1, h⟩⟩
     go_wp2_with fail
     refine (HQ.out _ HX.out.1).mono ?_
     rintro e w2 ⟨rfl, hx, hb⟩
     have HX2 := Lib.hid (And.intro hx (HX.out.2.trans (PK.of_below hb (Nat.le_of_lt HX.out.1.lt))))
     clear hx hb HQ
     by_cases r2 : r ≤ 57
     case neg =>
      replace HK3 : Hid (T = false) := by
       have := HK3.out
       rw [decide_eq_false r2] at this
       exact this
      go_wp2_with fail
      go_meet
      exact ⟨by rw [HK3.out, decide_eq_false (by omega)], HX2.out.1, HX2.out.2⟩
     case pos =>
      replace HK3 : Hid (T = true) := by
       have := HK3.out
       rw [decide_eq_true r2] at this
       exact this
      go_wp2_with fail
      go_meet
      exact ⟨by rw [HK3.out], HX2.out.1, HX2.out.2⟩
  case rest =>
  obtain ⟨rfl, HP2, HK2⟩ := hcut
  clear HP HK
  have HSL := Lib.hid (HP2.out.lt)
  by_cases hT : kk < 3 ∧ dgR t = true
  case neg =>
   have HT : Hid ((decide (kk < 3) && dgR t) = false) := by
    unfold Hid
    by_cases h1 : kk < 3
    ·have h2 : ¬ dgR t = true := fun h => hT ⟨h1, h⟩
     rw [Bool.not_eq_true] at h2
     rw [h2, Bool.and_false]
    ·rw [decide_eq_false h1]
     rfl
   rw [HT.out]
   have HND : Hid (kk = 0 → dgR t = false) := by
    intro h0
    subst h0
    simpa using hT
   have HNO : Hid (numP3 (3 - kk) m t = (m, t)) := numP3_no _ _ _ (by
    by_cases h1 : kk < 3
    ·exact .inr (by simpa [h1] using hT)
    ·exact .inl (by omega))
   clear hT HT
   by_cases k0 : kk = 0
   case pos =>
    subst k0
    have HO : Hid (o = none) := by
     obtain ⟨h1, h2, -⟩ := HF.out
     obtain ⟨h3, h4⟩ := h2 rfl
     have h5 := HN.out
     rw [← h3, HND.out rfl] at h5
     unfold Hid
     simpa using h5
    go_wp2_with fail
    rw [HO.out]
    exact ⟨rfl, HK2.out, ⟨_, rfl⟩⟩
   case neg =>
    have e0 : ((kk : Int) == 0) = false := beq_false_of_ne (by omega)
    have HO : Hid (o = some (m, t)) := by
     obtain ⟨h1, h2, h3, h4, h5⟩ := HF.out
     have := HN.out
     rw [h5 (by omega), if_pos rfl, ← h1, HNO.out] at this
     exact this
    clear k0
    go_wp2_with fail
    go_ret
    rw [HO.out]
    exact ⟨HK2.out, rfl, HP2.out⟩
  case pos =>
   obtain ⟨h1, h2⟩ := hT
   rw [decide_eq_true h1, h2]
   have hd := dg_pk t
   rw [h2] at hd
   have hd2 := of_decide_eq_true hd.symm
   obtain ⟨r, hr⟩ : ∃ r : Nat, pkR t = (r : Int) := ⟨(pkR t).toNat, by omega⟩
   have HNX : Hid (numP3 (3 - (kk + 1)) (10 * m + (r - 48)) t.tail = numP3 3 0 l) := by
    obtain ⟨h3, -⟩ := HF.out
    unfold Hid
    rw [← h3]
    have h4 := numP3_dg (3 - (kk + 1)) m t h2
    rw [hr] at h4
    rw [show 3 - kk = 3 - (kk + 1) + 1 by omega, h4]
    rfl
   have HR := Lib.hid hr
   have HDL : Hid (dgR l = true) := by
    obtain ⟨-, h3, -, -, h4⟩ := HF.out
    by_cases k0 : kk = 0
    ·rw [← (h3 k0).1]
     exact h2
    ·exact h4 (by omega)
   have hm2 : m ≤ 99 := HF.out.2.2.2.1 (by omega)
   have HM0 : Hid (kk = 0 → m = 0) := fun h => (HF.out.2.1 h).2
   have HM1 : Hid (kk ≤ 1 → m ≤ 9) := HF.out.2.2.1
   have hr1 : 48 ≤ r := by omega
   have hr2 : r ≤ 57 := by omega
   have HK1 := Lib.hid h1
   clear hd hd2 h1 h2 HF hm hr
   go_wp2_with fail
   refine (peek_l g s t dp wc HP2.out).mono ?_
   rintro e w3 ⟨rfl, hx, hb⟩
   rw [HR.out]
   have HK3 := Lib.hid (HK2.out.trans (PK.of_below hb (Nat.le_of_lt HP2.out.lt)))
   obtain ⟨i, hi, ht, hx⟩ := hx
   obtain ⟨c0, c1, c2⟩ := row3 hx
   have hfz : w3.frozen? ⟨g, 1, none⟩ = false := Lib.frozen_of_heap hx 1
   have HX := Lib.hid hx
   have HTI := Lib.hid ht
   have hil : i ≤ 1000000000 := by have := HS.out; omega
   have HIL := Lib.hid hi
   clear hx hb ht hi
   go_wp2_with fail

   refine ⟨⟨kk + 1, 10 * m + (r - 48), t.tail, by have := HK1.out; omega, by rw [show ((10 * m + (r - 48) : Nat) : Int) = 10 * (m : Int) + r - 48 by omega], rfl, by omega, ?_, HK3.out.trans (PK.setCell _ _ _ _), HNX.out, by omega, ?_, ?_, fun _ => HDL.out⟩, by have := HK1.out; simp [intOf]; omega⟩
   ·have hlt : i < s.size := by
     rcases Nat.lt_or_ge i s.size with h | h
     ·exact h
     ·have h2 := HTI.out
      rw [List.drop_of_length_le (by rw [L_len]; omega)] at h2
      have h3 := HR.out
      rw [h2] at h3
      have h4 : pkR [] = -1 := rfl
      omega
    exact ⟨i + 1, by omega, by rw [HTI.out, List.tail_drop], HX.out.setAt⟩
   ·intro h
    have := HM0.out (by omega)
    omega
   ·intro h
    have := HM1.out (by omega)
    omega
end Go.Proofs.YtpkecepelcppiaaGreatDoor
