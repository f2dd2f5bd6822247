/- The parser's infix walked, one level. Conditions: the variables of strconv read as laid. -/
import Derived.Test.YtpkecepelcppiaaGreatDoorZd30
import Derived.Test.YtpkecepelcppiaaGreatDoorZd11
import Derived.RegionTactic
import Derived.BigRegion
namespace Go.Proofs.YtpkecepelcppiaaGreatDoor
open Go.RowKit Go.Shelf
set_option maxHeartbeats 4000000
set_option maxRecDepth 100000

def MoreC (k : Int) (sep : Option UInt8) : Prop := ∀ (g : Nat) (s : ByteArray) (l : List UInt8) (dp : Nat) (w : World), PrsL g s l dp w → s.size ≤ 1000000000 →
  Calls Tryz.prog 98 #[.pointer (some ⟨g, 0, none⟩), .int .i64 k] w fun e w' => e = .returned (.bool (moreP sep l).isSome) ∧ PrsL g s ((moreP sep l).getD l) dp w' ∧ PK g w w'
theorem moreC1 (c : UInt8) (k : Int) (hk : (k = 1 ∧ c = 124) ∨ (k = 2 ∧ c = 38)) : MoreC k (some c) := by
 intro g s l dp w h hs
 refine (more_l1 c k hk g s l dp w h hs).mono ?_
 rintro e w' ⟨rfl, hx, hb⟩
 rw [moreP_tk]
 cases htk : tkR c l with
 | true => rw [htk] at hx; exact ⟨rfl, hx, hb⟩
 | false => rw [htk] at hx; exact ⟨rfl, hx, hb⟩
theorem moreC3 : MoreC 3 none := by
 intro g s l dp w h hs
 refine (more_l3 g s l dp w h).mono ?_
 rintro e w' ⟨rfl, hx, hb⟩
 rw [moreP_m3]
 cases htk : m3R l with
 | true => exact ⟨rfl, hx, hb⟩
 | false => exact ⟨rfl, hx, hb⟩
def leftG (g : Nat) (s : ByteArray) (w : World) : Nat := s.size - (match w.cell? ⟨g, 1, none⟩ with | some v => (intOf v).toNat | none => 0)
theorem left_of {g : Nat} {s : ByteArray} {l : List UInt8} {dp : Nat} {w : World} (h : PrsL g s l dp w) : leftG g s w = l.length := by
 obtain ⟨i, h1, rfl, h3⟩ := h
 unfold leftG
 rw [(row3 h3).2.1]
 rw [List.length_drop, L_len]
 show s.size - (Int.toNat (i : Int)) = _
 simp
theorem infP_map (op : Int) (sep : Option UInt8) (one : List UInt8 → Option (RX × List UInt8)) (l : List UInt8) : infP op sep one l = (one l).bind fun x => (restP sep one (x.2.length + 1) [x.1] x.2).map fun y => (joinP op y.1, y.2) := by
 unfold infP
 cases one l with
 | none => rfl
 | some x =>
  obtain ⟨p, r⟩ := x
  show (match restP sep one (r.length + 1) [p] r with | none => none | some (ps, r') => some (joinP op ps, r')) = Option.map (fun y => (joinP op y.1, y.2)) (restP sep one (r.length + 1) [p] r)
  cases restP sep one (r.length + 1) [p] r with
  | none => rfl
  | some y => rfl
def ArrO (A : Nat) (w : World) : Prop := w.heap[A]? = some (.cells #[.int .i64 0, .int .i64 4, .int .i64 6, .int .i64 3] 136 (0, 0))
theorem ArrO.cells {A : Nat} {w : World} (h : ArrO A w) : w.cell? ⟨A, 0, none⟩ = some (.int .i64 0) ∧ w.cell? ⟨A, 1, none⟩ = some (.int .i64 4) ∧ w.cell? ⟨A, 2, none⟩ = some (.int .i64 6) ∧ w.cell? ⟨A, 3, none⟩ = some (.int .i64 3) :=
 ⟨(cell_of_row w A 0 _ _ (0, 0) h).trans rfl, (cell_of_row w A 1 _ _ (0, 0) h).trans rfl, (cell_of_row w A 2 _ _ (0, 0) h).trans rfl, (cell_of_row w A 3 _ _ (0, 0) h).trans rfl⟩
theorem ArrO.below {A : Nat} {w w' : World} (h : ArrO A w) (hb : Below w.heap.size w w') : ArrO A w' := (hb.block A (Array.getElem?_eq_some_iff.1 h).1).trans h
theorem ArrO.pk {g A : Nat} {w w' : World} (h : ArrO A w) (hk : PK g w w') (hg : A ≠ g) : ArrO A w' := (hk.keep A hg (Array.getElem?_eq_some_iff.1 h).1).trans h
theorem rest_bad {sep : Option UInt8} {one : List UInt8 → Option (RX × List UInt8)} {f : Nat} {ps : List RX} {r r2 : List UInt8} (hm : moreP sep r = some r2) (ho : one r2 = none) : restP sep one (f + 1) ps r = none := by
 rw [restP, hm]
 dsimp only
 rw [ho]
theorem rest_step {sep : Option UInt8} {one : List UInt8 → Option (RX × List UInt8)} (he : Eats one) {ps : List RX} {r r2 r3 : List UInt8} {p : RX} (hm : moreP sep r = some r2) (ho : one r2 = some (p, r3)) : restP sep one (r.length + 1) ps r = restP sep one (r3.length + 1) (ps ++ [p]) r3 := by
 rw [restP, hm]
 dsimp only
 rw [ho]
 dsimp only
 have h1 := more_le hm
 have h2 := he _ _ _ ho
 exact rest_fuel sep one he _ _ _ _ (by omega) (by omega)
theorem rest_end {sep : Option UInt8} {one : List UInt8 → Option (RX × List UInt8)} {f : Nat} {ps : List RX} {r : List UInt8} (hm : moreP sep r = none) : restP sep one (f + 1) ps r = some (ps, r) := by
 rw [restP, hm]
theorem infix_step1 (sep : Option UInt8) (hmore : MoreC 1 sep) (one : List UInt8 → Option (RX × List UInt8)) (heat : Eats one) (g : Nat) (s : ByteArray) (dp : Nat) (hs : s.size ≤ 1000000000)
  (hone : ∀ l w, PrsL g s l dp w → EnvG g w → Calls Tryz.prog 66 #[.pointer (some ⟨g, 0, none⟩), .int .i64 2] w (OkQ g w (one l) s dp))
  (l : List UInt8) (w : World) (h : PrsL g s l dp w) (he : EnvG g w) :
  Calls Tryz.prog 66 #[.pointer (some ⟨g, 0, none⟩), .int .i64 1] w (OkQ g w (infP 4 sep one l) s dp) := by
 have HS := Lib.hid hs
 have HA0 := Lib.hid (AtS.start h he)
 have HMORE := Lib.hid hmore
 have HONE := Lib.hid hone
 have HEAT := Lib.hid heat
 have HO := Lib.hid (infP_map 4 sep one l)
 generalize infP 4 sep one l = O at *
 clear hs h he hmore hone heat
 have hwr2 : IntKind.i64.wrap 2 = 2 := rfl
 have hwr3 : IntKind.i64.wrap 3 = 3 := rfl
 have hwr4 : IntKind.i64.wrap 4 = 4 := rfl
 go_enter Tryz.func66, Tryz.ntmps66
 go_upto_region 1 with fail
 have hz0 : (World.alloc w (.cells #[.int .i64 0, .int .i64 0, .int .i64 0, .int .i64 0, .int .i64 0, .slice none 0 0] 45)).heap.size = w.heap.size + 1 := by simp
 have HZ := Lib.hid hz0
 clear hz0
 generalize World.alloc w _ = w1 at *
 go_upto_region 4 with fail
 go_cut [6] (fun v6 wx => ∃ (b : Nat) (v : Value) (cs : List PC) (ps : List RX) (r : List UInt8), v6 = .pointer (some ⟨b, 0, none⟩) ∧ Hid (AtS g s r dp w wx) ∧ Hid (BoxP b ⟨4, 0, 0, 0, 0, v⟩ wx) ∧ Hid (OwnP (fun x => w.heap.size < x ∧ x ≠ g ∧ x ≠ b) 0 wx v cs ps)
  ∧ Hid (w.heap.size < b ∧ (∀ x, v.ownBlock = some x → w.heap.size < x ∧ x ≠ g ∧ x ≠ b) ∧ ps.length + r.length ≤ s.size) ∧ Hid (O = (restP sep one (r.length + 1) ps r).map fun y => (joinP 4 y.1, y.2)))
 case first =>
  generalize hW : World.alloc w1 _ = w2
  obtain ⟨ha, -, hz, hb⟩ := alloc_of hW
  have HAR := Lib.hid (show ArrO w1.heap.size w2 from ha)
  have HA := Lib.hid (HA0.out.below hb)
  clear hW ha hz hb HA0
  replace HAR := Lib.hid (HAR.out.below (below_drewN (Below.refl _ _) 1))
  replace HA := Lib.hid (HA.out.below (below_drewN (Below.refl _ _) 1))
  have hd : w2.drewN 1 = w2.drew := rfl
  rw [hd] at HAR HA
  clear hd
  refine wpq_region (fun w' => ArrO w1.heap.size w') 10 (by kernel_rfl) HAR.out (fun hHeld => ?_)
  generalize w2.drew = w3 at *
  refine wpq_tk 0 (some 12) [1, 2, 8, 10] (Or.inl ⟨by rfl, fun w hSw => by (obtain ⟨a0, a1, a2, a3⟩ := ArrO.cells hSw; go_simp; with_reducible rfl)⟩) hHeld ?_ rfl rfl
  simp only [Act.put, sA, sZ, sS]
  refine wpq_tk 1 (some 13) [2, 8, 10] (Or.inl ⟨by rfl, fun w hSw => by (obtain ⟨a0, a1, a2, a3⟩ := ArrO.cells hSw; go_simp; with_reducible rfl)⟩) hHeld ?_ rfl rfl
  simp only [Act.put, sA, sZ, sS]
  refine wpq_tk 2 (some 14) [8, 10] (Or.inl ⟨by rfl, fun w hSw => by (obtain ⟨a0, a1, a2, a3⟩ := ArrO.cells hSw; go_simp; with_reducible rfl)⟩) hHeld ?_ rfl rfl
  simp only [Act.put, sA, sZ, sS]
  refine wpq_tk 3 (some 15) [6, 7, 8, 10] (Or.inl ⟨by rfl, fun w hSw => by (obtain ⟨a0, a1, a2, a3⟩ := ArrO.cells hSw; go_simp; with_reducible rfl)⟩) hHeld ?_ rfl rfl
  simp only [Act.put, sA, sZ, sS]
  refine wpq_tk 4 (some 16) [5, 6, 7, 8, 10] (Or.inl ⟨by rfl, fun w hSw => by (obtain ⟨a0, a1, a2, a3⟩ := ArrO.cells hSw; go_simp; with_reducible rfl)⟩) hHeld ?_ rfl rfl
  simp only [Act.put, sA, sZ, sS]
  refine wpq_tk 5 (some 17) [6, 7, 8, 10] (Or.inl ⟨by rfl, fun w hSw => by (obtain ⟨a0, a1, a2, a3⟩ := ArrO.cells hSw; go_simp; with_reducible rfl)⟩) hHeld ?_ rfl rfl
  simp only [Act.put, sA, sZ, sS]

  refine wpq_two 6 9 (by kernel_rfl) rfl rfl (fun K hK => ?_) (fun K hK => ?_)
  ·go_simp
   refine (HONE.out l w3 HA.out.1 HA.out.2.1).mono ?_
   rintro e w4 ⟨hk, hx⟩
   cases hol : one l with
   | none =>
    rw [hol] at hx HO
    obtain ⟨v, rfl⟩ := hx
    have HOn : Hid (O = none) := HO
    clear hHeld
    rw [HOn.out]
    exact ⟨rfl, HA.out.2.2.1.trans hk, v, rfl⟩
   | some x =>
    obtain ⟨p, r⟩ := x
    rw [hol] at hx HO
    have hlt := HEAT.out l p r hol
    have hll := HA.out.1.len
    have HLEN : Hid (1 + r.length ≤ s.size) := by unfold Hid; omega
    obtain ⟨c, rfl, hc, hx⟩ := hx
    have hsz := HA.out.2.2.2.1.lt
    replace HAR := Lib.hid (HAR.out.pk hk (by have := HA.out.2.2.2.2; have := HZ.out; omega))

    have HCp := Lib.hid (hc.mono (M := fun x => w.heap.size < x ∧ x ≠ g) (fun x h1 h2 => by have := HA.out.2.2.2.2; omega))

    replace HA := Lib.hid (HA.out.go hk hx)
    dsimp only at HA HCp
    clear hk hx hol hc hsz hHeld hlt hll
    refine hK.out _ _ HAR.out (fun hHeld => ?_)
    clear hK K
    refine wpq_two 7 9 (by kernel_rfl) rfl rfl (fun K hK => ?_) (fun K hK => ?_)
    ·go_simp
     generalize hW : World.alloc w4 _ = w5
     obtain ⟨ha, -, hz, hb⟩ := alloc_of hW
     have HM := Lib.hid (show BoxP w4.heap.size c w5 from ha)
     have HMG : Hid (w.heap.size < w4.heap.size ∧ g < w.heap.size) := ⟨HA.out.2.2.2.1.lt, HA.out.2.2.2.2⟩

     replace HCp := Lib.hid ((HCp.out.mono (M := fun x => (w.heap.size < x ∧ x ≠ g) ∧ x ≠ w4.heap.size) (fun x h1 h2 => ⟨h1, by omega⟩)).stay hb)

     replace HA := Lib.hid (HA.out.below hb)
     replace HAR := Lib.hid (HAR.out.below hb)
     clear hW ha hz hb hHeld
     refine hK.out _ _ HAR.out (fun hHeld => ?_)
     clear hK K
     refine wpq_tk 8 (some 20) [10] (Or.inl ⟨by rfl, fun w hSw => by (go_simp; with_reducible rfl)⟩) hHeld ?_ rfl rfl
     simp only [Act.put, sA, sZ, sS]

     refine wpq_one 9 (by kernel_rfl) rfl (fun K hK => ?_)

     go_simp
     generalize hW : World.alloc w5 _ = w6
     obtain ⟨ha, -, hz, hb⟩ := alloc_of hW
     have HB := Lib.hid (show BoxP w5.heap.size ⟨0, 0, 0, 0, 0, .slice none 0 0⟩ w6 from ha)
     have HBG : Hid (w.heap.size < w5.heap.size ∧ g < w.heap.size) := ⟨HA.out.2.2.2.1.lt, HA.out.2.2.2.2⟩
     replace HA := Lib.hid (HA.out.below hb)
     replace HAR := Lib.hid (HAR.out.below hb)

     have HMB : Hid (w4.heap.size ≠ w5.heap.size) := by unfold Hid; have := HM.out.lt; omega
     replace HM := Lib.hid (HM.out.below hb)
     replace HCp := Lib.hid ((HCp.out.mono (M := fun x => (w.heap.size < x ∧ x ≠ g ∧ x ≠ w5.heap.size) ∧ x ≠ w4.heap.size) (fun x h1 h2 => ⟨⟨h1.1.1, h1.1.2, by omega⟩, h1.2⟩)).stay hb)

     clear hW ha hz hb hHeld
     refine hK.out _ _ HAR.out (fun hHeld => ?_)
     clear hK K

     refine wpq_end 10 (by kernel_rfl) rfl (by kernel_rfl) (fun K hK => ?_)
     obtain ⟨k0, k1, k2, k3, k4, k5⟩ := HB.out.free
     obtain ⟨r0, r1, r2, r3, r4, r5⟩ := HB.out.cells
     simp only at r0 r1 r2 r3 r4 r5
     go_simp
     generalize hW : World.setCell _ _ _ = w9
     obtain ⟨hb1, hb2⟩ := HB.out.set (d := ⟨4, 0, 0, 0, 0, .slice (some ⟨w4.heap.size, 0, none⟩) 1 1⟩) hW
     have hot := set6_other hW
     replace HA := Lib.hid (HA.out.own hb2 hot HBG.out.1)
     replace HM := Lib.hid (show BoxP w4.heap.size c w9 from (hot _ HMB.out).trans HM.out)
     replace HCp := Lib.hid (HCp.out.keep (w' := w9) (fun x hx _ => hot x hx.1.2.2))
     replace HB := Lib.hid hb1
     clear hW hb1 hb2 hot k0 k1 k2 k3 k4 k5 r0 r1 r2 r3 r4 r5 hHeld
     refine hK.out _ _ ?_
     clear hK K
     refine wpq_done (by kernel_rfl) ?_ _
     go_simp
     go_wp2_with fail
     go_meet
     exact ⟨w5.heap.size, _, [c], [p], r, rfl, HA.out, HB.out, OwnP.one (HM.out) (HCp.out), ⟨HBG.out.1, by intro x hx; rw [own_one hx]; exact ⟨HMG.out.1, by have := HMG.out; omega, HMB.out⟩, by simpa using HLEN.out⟩, HO⟩
    ·go_simp
     generalize hW : World.alloc w4 _ = w5
     obtain ⟨ha, -, hz, hb⟩ := alloc_of hW
     have HB := Lib.hid (show BoxP w4.heap.size ⟨0, 0, 0, 0, 0, .slice none 0 0⟩ w5 from ha)
     have HBG : Hid (w.heap.size < w4.heap.size ∧ g < w.heap.size) := ⟨HA.out.2.2.2.1.lt, HA.out.2.2.2.2⟩
     replace HA := Lib.hid (HA.out.below hb)
     replace HAR := Lib.hid (HAR.out.below hb)

     replace HCp := Lib.hid ((HCp.out.mono (M := fun x => w.heap.size < x ∧ x ≠ g ∧ x ≠ w4.heap.size) (fun x h1 h2 => ⟨h1.1, h1.2, by omega⟩)).stay hb)

     clear hW ha hz hb hHeld
     refine hK.out _ _ HAR.out (fun hHeld => ?_)
     clear hK K

     refine wpq_one 7 (by kernel_rfl) rfl (fun K hK => ?_)

     go_simp
     generalize hW : World.alloc w5 _ = w6
     obtain ⟨ha, -, hz, hb⟩ := alloc_of hW
     have HM := Lib.hid (show BoxP w5.heap.size c w6 from ha)
     have HMG : Hid (w.heap.size < w5.heap.size ∧ g < w.heap.size) := ⟨HA.out.2.2.2.1.lt, HA.out.2.2.2.2⟩

     have HMB : Hid (w5.heap.size ≠ w4.heap.size) := by unfold Hid; have := HB.out.lt; omega
     replace HB := Lib.hid (HB.out.below hb)
     replace HCp := Lib.hid ((HCp.out.mono (M := fun x => (w.heap.size < x ∧ x ≠ g ∧ x ≠ w4.heap.size) ∧ x ≠ w5.heap.size) (fun x h1 h2 => ⟨h1, by omega⟩)).stay hb)

     replace HA := Lib.hid (HA.out.below hb)
     replace HAR := Lib.hid (HAR.out.below hb)
     clear hW ha hz hb hHeld
     refine hK.out _ _ HAR.out (fun hHeld => ?_)
     clear hK K
     refine wpq_tk 8 (some 20) [10] (Or.inl ⟨by rfl, fun w hSw => by (go_simp; with_reducible rfl)⟩) hHeld ?_ rfl rfl
     simp only [Act.put, sA, sZ, sS]

     refine wpq_end 10 (by kernel_rfl) rfl (by kernel_rfl) (fun K hK => ?_)
     obtain ⟨k0, k1, k2, k3, k4, k5⟩ := HB.out.free
     obtain ⟨r0, r1, r2, r3, r4, r5⟩ := HB.out.cells
     simp only at r0 r1 r2 r3 r4 r5
     go_simp
     generalize hW : World.setCell _ _ _ = w9
     obtain ⟨hb1, hb2⟩ := HB.out.set (d := ⟨4, 0, 0, 0, 0, .slice (some ⟨w5.heap.size, 0, none⟩) 1 1⟩) hW
     have hot := set6_other hW
     replace HA := Lib.hid (HA.out.own hb2 hot HBG.out.1)
     replace HM := Lib.hid (show BoxP w5.heap.size c w9 from (hot _ HMB.out).trans HM.out)
     replace HCp := Lib.hid (HCp.out.keep (w' := w9) (fun x hx _ => hot x hx.1.2.2))
     replace HB := Lib.hid hb1
     clear hW hb1 hb2 hot k0 k1 k2 k3 k4 k5 r0 r1 r2 r3 r4 r5 hHeld
     refine hK.out _ _ ?_
     clear hK K
     refine wpq_done (by kernel_rfl) ?_ _
     go_simp
     go_wp2_with fail
     go_meet
     exact ⟨w4.heap.size, _, [c], [p], r, rfl, HA.out, HB.out, OwnP.one (HM.out) (HCp.out), ⟨HBG.out.1, by intro x hx; rw [own_one hx]; exact ⟨HMG.out.1, by have := HMG.out; omega, HMB.out⟩, by simpa using HLEN.out⟩, HO⟩
  ·go_simp
   generalize hW : World.alloc w3 _ = w4
   obtain ⟨ha, -, hz, hb⟩ := alloc_of hW
   have HB := Lib.hid (show BoxP w3.heap.size ⟨0, 0, 0, 0, 0, .slice none 0 0⟩ w4 from ha)
   have HBG : Hid (w.heap.size < w3.heap.size ∧ g < w.heap.size) := ⟨HA.out.2.2.2.1.lt, HA.out.2.2.2.2⟩
   replace HA := Lib.hid (HA.out.below hb)
   replace HAR := Lib.hid (HAR.out.below hb)

   clear hW ha hz hb hHeld
   refine hK.out _ _ HAR.out (fun hHeld => ?_)
   clear hK K

   refine wpq_one 6 (by kernel_rfl) rfl (fun K hK => ?_)

   go_simp
   refine (HONE.out l w4 HA.out.1 HA.out.2.1).mono ?_
   rintro e w5 ⟨hk, hx⟩
   cases hol : one l with
   | none =>
    rw [hol] at hx HO
    obtain ⟨v, rfl⟩ := hx
    have HOn : Hid (O = none) := HO
    clear hHeld
    rw [HOn.out]
    exact ⟨rfl, HA.out.2.2.1.trans hk, v, rfl⟩
   | some x =>
    obtain ⟨p, r⟩ := x
    rw [hol] at hx HO
    have hlt := HEAT.out l p r hol
    have hll := HA.out.1.len
    have HLEN : Hid (1 + r.length ≤ s.size) := by unfold Hid; omega
    obtain ⟨c, rfl, hc, hx⟩ := hx
    have hsz := HA.out.2.2.2.1.lt
    replace HAR := Lib.hid (HAR.out.pk hk (by have := HA.out.2.2.2.2; have := HZ.out; omega))

    have HCp := Lib.hid (hc.mono (M := fun x => w.heap.size < x ∧ x ≠ g ∧ x ≠ w3.heap.size) (fun x h1 h2 => by have := HA.out.2.2.2.2; have := HB.out.lt; omega))
    replace HB := Lib.hid (HB.out.pk hk (by have := HA.out.2.2.2.2; have := HBG.out; omega))

    replace HA := Lib.hid (HA.out.go hk hx)
    dsimp only at HA HCp
    clear hk hx hol hc hsz hHeld hlt hll
    refine hK.out _ _ HAR.out (fun hHeld => ?_)
    clear hK K
    refine wpq_one 7 (by kernel_rfl) rfl (fun K hK => ?_)

    go_simp
    generalize hW : World.alloc w5 _ = w6
    obtain ⟨ha, -, hz, hb⟩ := alloc_of hW
    have HM := Lib.hid (show BoxP w5.heap.size c w6 from ha)
    have HMG : Hid (w.heap.size < w5.heap.size ∧ g < w.heap.size) := ⟨HA.out.2.2.2.1.lt, HA.out.2.2.2.2⟩

    have HMB : Hid (w5.heap.size ≠ w3.heap.size) := by unfold Hid; have := HB.out.lt; omega
    replace HB := Lib.hid (HB.out.below hb)
    replace HCp := Lib.hid ((HCp.out.mono (M := fun x => (w.heap.size < x ∧ x ≠ g ∧ x ≠ w3.heap.size) ∧ x ≠ w5.heap.size) (fun x h1 h2 => ⟨h1, by omega⟩)).stay hb)

    replace HA := Lib.hid (HA.out.below hb)
    replace HAR := Lib.hid (HAR.out.below hb)
    clear hW ha hz hb hHeld
    refine hK.out _ _ HAR.out (fun hHeld => ?_)
    clear hK K
    refine wpq_tk 8 (some 20) [10] (Or.inl ⟨by rfl, fun w hSw => by (go_simp; with_reducible rfl)⟩) hHeld ?_ rfl rfl
    simp only [Act.put, sA, sZ, sS]

    refine wpq_end 10 (by kernel_rfl) rfl (by kernel_rfl) (fun K hK => ?_)
    obtain ⟨k0, k1, k2, k3, k4, k5⟩ := HB.out.free
    obtain ⟨r0, r1, r2, r3, r4, r5⟩ := HB.out.cells
    simp only at r0 r1 r2 r3 r4 r5
    go_simp
    generalize hW : World.setCell _ _ _ = w9
    obtain ⟨hb1, hb2⟩ := HB.out.set (d := ⟨4, 0, 0, 0, 0, .slice (some ⟨w5.heap.size, 0, none⟩) 1 1⟩) hW
    have hot := set6_other hW
    replace HA := Lib.hid (HA.out.own hb2 hot HBG.out.1)
    replace HM := Lib.hid (show BoxP w5.heap.size c w9 from (hot _ HMB.out).trans HM.out)
    replace HCp := Lib.hid (HCp.out.keep (w' := w9) (fun x hx _ => hot x hx.1.2.2))
    replace HB := Lib.hid hb1
    clear hW hb1 hb2 hot k0 k1 k2 k3 k4 k5 r0 r1 r2 r3 r4 r5 hHeld
    refine hK.out _ _ ?_
    clear hK K
    refine wpq_done (by kernel_rfl) ?_ _
    go_simp
    go_wp2_with fail
    go_meet
    exact ⟨w3.heap.size, _, [c], [p], r, rfl, HA.out, HB.out, OwnP.one (HM.out) (HCp.out), ⟨HBG.out.1, by intro x hx; rw [own_one hx]; exact ⟨HMG.out.1, by have := HMG.out; omega, HMB.out⟩, by simpa using HLEN.out⟩, HO⟩
 case rest =>
  clear HO HA0 HZ hwr2 hwr3
  obtain ⟨b, v, cs, ps, r, rfl, HA, HB, HW, HG, HO⟩ := hcut
  go_wp2_with fail
  go_loopw [23] (fun _ wr => ∃ (v : Value) (cs : List PC) (ps : List RX) (r : List UInt8), Hid (AtS g s r dp w wr) ∧ Hid (BoxP b ⟨4, 0, 0, 0, 0, v⟩ wr) ∧ Hid (OwnP (fun x => w.heap.size < x ∧ x ≠ g ∧ x ≠ b) 0 wr v cs ps)
   ∧ Hid (w.heap.size < b ∧ (∀ x, v.ownBlock = some x → w.heap.size < x ∧ x ≠ g ∧ x ≠ b) ∧ ps.length + r.length ≤ s.size) ∧ Hid (O = (restP sep one (r.length + 1) ps r).map fun y => (joinP 4 y.1, y.2))) (fun _ wr => leftG g s wr)
  case atStart => exact ⟨v, cs, ps, r, HA, HB, HW, HG, HO⟩
  case round =>
   clear HA HB HW HG HO
   obtain ⟨v, cs, ps, r, HA, HB, HW, HG, HO⟩ := hrel
   have HLF := Lib.hid (left_of HA.out.1)
   obtain ⟨A, cap, hv, -⟩ := HW.out.slx.1
   obtain ⟨n, hn⟩ : ∃ n, n = ps.length := ⟨_, rfl⟩
   rw [← hn] at hv
   have HN := Lib.hid hn
   subst hv
   clear hn
   go_wp2_with fail
   refine (HMORE.out g s r dp wr HA.out.1 HS.out).mono ?_
   rintro e w4 ⟨rfl, hx, hk⟩
   have HBd := Lib.hid (HB.out.pk hk (by have := HG.out.1; have := HA.out.2.2.2.2; omega))
   replace HW := Lib.hid (HW.out.keep2 (w' := w4) (fun x hx hl => hk.keep x (by rcases hx with hx | hx; exact hx.2.1; exact (HG.out.2.1 x hx).2.1) hl))
   replace HA := Lib.hid (HA.out.go hk hx)
   clear hk hx HB
   cases hmo : moreP sep r with
   | some r2 =>
    rw [hmo] at HA
    dsimp only [Option.isSome_some, Option.getD_some] at HA ⊢
    have HMO := Lib.hid hmo
    clear hmo
    go_upto_region 6 with fail
    replace HA := Lib.hid (HA.out.below (below_drewN (Below.refl _ _) 1))
    replace HBd := Lib.hid (HBd.out.below (below_drewN (Below.refl _ _) 1))
    replace HW := Lib.hid (HW.out.keep2 (w' := w4.drewN 1) (fun x _ _ => rfl))
    have hd : w4.drewN 1 = w4.drew := rfl
    rw [hd] at HA HBd HW
    clear hd
    refine wpq_region (fun w' => BoxP b ⟨4, 0, 0, 0, 0, .slice A n cap⟩ w') 9 (by kernel_rfl) HBd.out (fun hHeld => ?_)
    generalize w4.drew = wd at *
    refine wpq_tk 0 (some 24) [1, 7, 9] (Or.inl ⟨by rfl, fun w hSw => by (obtain ⟨a0, a1, a2, a3, a4, a5⟩ := BoxP.cells hSw; go_simp; with_reducible rfl)⟩) hHeld ?_ rfl rfl
    simp only [Act.put, sA, sZ, sS]
    refine wpq_tk 1 (some 25) [7, 9] (Or.inl ⟨by rfl, fun w hSw => by (obtain ⟨a0, a1, a2, a3, a4, a5⟩ := BoxP.cells hSw; go_simp; with_reducible rfl)⟩) hHeld ?_ rfl rfl
    simp only [Act.put, sA, sZ, sS]
    refine wpq_tk 2 (some 26) [5, 6, 7, 9] (Or.inl ⟨by rfl, fun w hSw => by (obtain ⟨a0, a1, a2, a3, a4, a5⟩ := BoxP.cells hSw; go_simp; with_reducible rfl)⟩) hHeld ?_ rfl rfl
    simp only [Act.put, sA, sZ, sS]
    refine wpq_tk 3 (some 27) [4, 5, 6, 7, 9] (Or.inl ⟨by rfl, fun w hSw => by (obtain ⟨a0, a1, a2, a3, a4, a5⟩ := BoxP.cells hSw; go_simp; with_reducible rfl)⟩) hHeld ?_ rfl rfl
    simp only [Act.put, sA, sZ, sS]
    refine wpq_tk 4 (some 28) [5, 6, 7, 9] (Or.inl ⟨by rfl, fun w hSw => by (obtain ⟨a0, a1, a2, a3, a4, a5⟩ := BoxP.cells hSw; go_simp; with_reducible rfl)⟩) hHeld ?_ rfl rfl
    simp only [Act.put, sA, sZ, sS]

    refine wpq_one 5 (by kernel_rfl) rfl (fun K hK => ?_)
    go_simp
    refine (HONE.out r2 wd HA.out.1 HA.out.2.1).mono ?_
    rintro e w5 ⟨hk, hx⟩
    cases hol : one r2 with
    | none =>
     rw [hol] at hx
     obtain ⟨v, rfl⟩ := hx
     have HOn : Hid (O = none) := by unfold Hid; rw [HO.out, rest_bad HMO.out hol]; rfl
     have HPN := Lib.hid (HA.out.2.2.1.trans hk)
     clear hHeld hk hol
     go_wp2_with fail
     rw [HOn.out]
     exact ⟨rfl, HPN.out, v, rfl⟩
    | some x =>
     obtain ⟨p, r3⟩ := x
     rw [hol] at hx
     replace HO : Hid (O = (restP sep one (r3.length + 1) (ps ++ [p]) r3).map fun y => (joinP 4 y.1, y.2)) := by unfold Hid; rw [HO.out, rest_step HEAT.out HMO.out hol]
     have hl1 := HEAT.out _ _ _ hol
     have hl2 := more_le HMO.out
     have HLT : Hid (r3.length < r.length) := by unfold Hid; omega
     obtain ⟨c, rfl, hc, hx⟩ := hx
     have hsz := HA.out.1.lt
     have HCp := Lib.hid (hc.mono (M := fun x => (w.heap.size < x ∧ x ≠ g ∧ x ≠ b) ∧ some x ≠ (Value.slice A n cap).ownBlock) (fun x h1 h2 => ⟨⟨by have := HA.out.2.2.2.1.lt; omega, by omega, by have := HBd.out.lt; omega⟩, fun he => by have := (HW.out.1.lt x he.symm).2; omega⟩))
     replace HW := Lib.hid (HW.out.keep2 (w' := w5) (fun x hx hl => hk.keep x (by rcases hx with hx | hx; exact hx.2.1; exact (HG.out.2.1 x hx).2.1) hl))
     replace HBd := Lib.hid (HBd.out.pk hk (by have := HG.out.1; have := HA.out.2.2.2.2; omega))
     replace HA := Lib.hid (HA.out.go hk hx)
     dsimp only at HA HCp
     clear hk hx hol hc hsz hHeld hl1 hl2
     refine hK.out _ _ HBd.out (fun hHeld => ?_)
     clear hK K
     refine wpq_one 6 (by kernel_rfl) rfl (fun K hK => ?_)
     go_simp
     have hb5 : Below w5.heap.size w5 (w5.alloc (.cells c.cells.toArray 45)) := (Below.refl _ _).alloc (Nat.le_refl _) _
     clear hHeld
     refine hK.out _ _ (HBd.out.below hb5) (fun hHeld => ?_)
     clear hK K hHeld hb5
     refine wpq_one 7 (by kernel_rfl) rfl (fun K hK => ?_)
     refine step_pushP (N := fun x => w.heap.size < x ∧ x ≠ g ∧ x ≠ b) (B := 0) (c := c) (p := p) (v := .slice A n cap) (cs := cs) (ps := ps) rfl _ _ rfl HW.out HCp.out rfl rfl rfl ?hn (Nat.zero_le _) ?_
     case hn =>
      have h1 := HW.out.2.1
      have h2 := HG.out.2.2
      have h3 := HS.out
      have h4 := HLT.out
      omega
     rintro v' w6 hown hg ⟨A2, cap2, rfl⟩ hat
     have HOWN := Lib.hid hown
     have HBd6 := Lib.hid (show BoxP b ⟨4, 0, 0, 0, 0, .slice A n cap⟩ w6 from (hg.block b HBd.out.lt (fun he => (HG.out.2.1 b he.symm).2.2 rfl)).trans HBd.out)
     have hpx : AtS g s r3 dp w w6 := by
      obtain ⟨a1, ⟨u, a2, a3, a4⟩, a5, a6, a7⟩ := HA.out
      have ho : ∀ x, x < w.heap.size + 1 → x < w5.heap.size → w6.heap[x]? = w5.heap[x]? := fun x h1 h2 => hg.block x h2 (fun he => by have := (HG.out.2.1 x he.symm).1; omega)
      have hbel : Below (w.heap.size + 1) w5 w6 := ⟨hg.os, hg.tape, hg.output, hg.size, fun x hx => ho x hx (by have := a6.lt; omega)⟩
      exact ⟨a1.keep (ho g (by omega) a1.lt), ⟨u, a2, a3, a4.trans (hbel.mono (by omega))⟩, a5.top hbel (by omega) (by omega), (ho _ (by omega) a6.lt).trans a6, a7⟩
     have hsz6 := hg.size
     have hown' : ∀ x, (Value.slice A2 (cs.length + 1) cap2).ownBlock = some x → w.heap.size < x ∧ x ≠ g ∧ x ≠ b := by
      intro x hx
      rcases hat with hat | ⟨k, hk, hat⟩
      ·exact HG.out.2.1 x (hat ▸ hx)
      ·rw [hat] at hx
       cases hx
       have := HA.out.2.2.2.1.lt
       have := HA.out.2.2.2.2
       have := HBd.out.lt
       omega
     replace HA := Lib.hid hpx
     replace HG : Hid (w.heap.size < b ∧ (∀ x, (Value.slice A2 (cs.length + 1) cap2).ownBlock = some x → w.heap.size < x ∧ x ≠ g ∧ x ≠ b) ∧ (ps ++ [p]).length + r3.length ≤ s.size) := ⟨HG.out.1, hown', by have := HG.out.2.2; have := HLT.out; rw [List.length_append]; simp only [List.length_cons, List.length_nil]; omega⟩
     clear hown hg hat hpx hsz6 hown'
     refine hK.out _ _ HBd6.out (fun hHeld => ?_)
     clear hK K
     refine wpq_tk 8 (some 32) [9] (Or.inl ⟨by rfl, fun w hSw => by (go_simp; with_reducible rfl)⟩) hHeld ?_ rfl rfl
     simp only [Act.put, List.setIfInBounds_toArray]

     refine wpq_end 9 (by kernel_rfl) rfl (by kernel_rfl) (fun K hK => ?_)
     have hfz : w6.frozen? ⟨b, 5, none⟩ = false := Lib.frozen_of_heap HBd6.out 5
     obtain ⟨t0, t1, t2, t3, t4, t5⟩ := HBd6.out.cells
     simp only at t5
     clear t0 t1 t2 t3 t4 hHeld
     go_simp
     generalize hW : World.setCell w6 _ _ = w7
     have hbb : Below b w6 w7 := hW ▸ (Below.refl _ _).setCell (p := ⟨b, 5, none⟩) (Nat.le_refl _) _
     have hot : ∀ x, x ≠ b → w7.heap[x]? = w6.heap[x]? := fun x hx => hW ▸ Below.heap_setCell _ _ _ _ hx
     have HB7 := Lib.hid (show BoxP b ⟨4, 0, 0, 0, 0, .slice A2 (cs.length + 1) cap2⟩ w7 from hW ▸ heap_setCell_same w6 b 5 _ _ (.slice A2 (cs.length + 1) cap2) HBd6.out)
     replace HA := Lib.hid (HA.out.own hbb hot HG.out.1)
     replace HOWN := Lib.hid (HOWN.out.keep2 (w' := w7) (fun x hx hl => hot x (by rcases hx with hx | hx; exact hx.2.2; exact (HG.out.2.1 x hx).2.2)))
     have HLF2 := Lib.hid (left_of HA.out.1)
     clear hW hbb hot hfz t5
     refine hK.out _ _ ?_
     clear hK K
     refine wpq_done (by kernel_rfl) ?_ _
     go_simp
     go_wp2_with fail
     refine ⟨⟨_, _, _, _, HA.out, HB7.out, HOWN.out, HG.out, HO.out⟩, ?_⟩
     have h1 := HLF.out
     have h2 := HLF2.out
     have h3 := HLT.out
     omega
   | none =>
    rw [hmo] at HA
    dsimp only [Option.isSome_none, Option.getD_none] at HA ⊢
    replace HO : Hid (O = some (joinP 4 ps, r)) := by
     unfold Hid
     rw [HO.out, rest_end hmo]
     rfl
    have HNL := Lib.hid (HW.out.slx.1)
    obtain ⟨k0, k1, k2, k3, k4, k5⟩ := HA.out.2.2.2.1.free
    obtain ⟨r0, r1, r2, r3, r4, r5⟩ := HA.out.2.2.2.1.cells
    obtain ⟨t0, t1, t2, t3, t4, t5⟩ := HBd.out.cells
    simp only at r0 r1 r2 r3 r4 r5 t0 t1 t2 t3 t4 t5
    have hnl : (n : Int) ≤ 9223372036854775807 := by
     obtain ⟨_, _, h1, h2, h3, -⟩ := HNL.out
     cases h1
     simp only [maxLen] at h3
     omega
    by_cases h1 : n = 1
    case pos =>
     have e1 : ((n : Int) == 1) = true := by rw [h1]; rfl
     have hpos : 0 < ps.length := by have := HN.out; omega
     obtain ⟨ga, oa, na, capa, c, hv, hob, hna, hga, hca, hq⟩ := HW.out.part 0 hpos
     cases hv
     have hj : joinP 4 ps = ps[0] := by
      match ps, HN.out, h1 with
      | [p], _, _ => rfl
      | [], h2, h3 => simp only [List.length_nil] at h2; omega
      | p :: q :: t, h2, h3 => simp only [List.length_cons] at h2; omega
     rw [hj] at HO
     have HQ := Lib.hid (hq.mono (M := fun b => w.heap.size < b) (fun x h _ => h.1.1))
     generalize ps[0] = p0 at *
     obtain ⟨qa, qcap, hqa⟩ := HQ.out.rd.forms
     generalize p0.args.length = pn at *
     obtain ⟨q0, q1, q2, q3, q4, q5⟩ := c
     simp only at hqa
     subst hqa
     obtain ⟨c0, c1, c2, c3, c4, c5⟩ := cells6 hca
     simp only [Nat.zero_mul, Nat.add_zero] at c0 c1 c2 c3 c4 c5
     have hn0 : (0 : Int) < (n : Int) := by omega
     have HN1 := Lib.hid h1
     clear h1 hca hq hpos hj hob hna HNL HW HN hga
     go_wp2_with fail
     generalize hW : World.setCell _ _ _ = w9
     obtain ⟨hbx, hok⟩ := HA.out.fin (d := ⟨q0, q1, q2, q3, q4, .slice qa pn qcap⟩) HQ.out hW
     obtain ⟨s0, s1, s2, s3, s4, s5⟩ := hbx.cells
     refine bodyPost_ret (v := aggP ⟨q0, q1, q2, q3, q4, .slice qa pn qcap⟩) (by simp only at s0 s1 s2 s3 s4 s5; simp [results, Tryz.results66, go_sem, s0, s1, s2, s3, s4, s5]) rfl ?_
     rw [HO.out]
     exact hok
    case neg =>
     have e1 : ((n : Int) == 1) = false := beq_false_of_ne (by omega)
     have hj : joinP 4 ps = .mk 4 0 0 0 0 ps := by
      match ps, HN.out, h1 with
      | [p], h2, h3 => simp only [List.length_cons, List.length_nil] at h2; omega
      | [], _, _ => rfl
      | p :: q :: t, _, _ => rfl
     rw [hj] at HO
     have HQ := Lib.hid ((HW.out.node2 (fun x hx => HG.out.2.1 x hx) 4 0 0 0 0).mono (M := fun b => w.heap.size < b) (fun x h _ => h.1))
     clear h1 hj HNL HW HN
     go_wp2_with fail
     generalize hW : World.setCell _ _ _ = w9
     obtain ⟨hbx, hok⟩ := HA.out.fin (d := ⟨4, 0, 0, 0, 0, .slice A n cap⟩) HQ.out hW
     obtain ⟨s0, s1, s2, s3, s4, s5⟩ := hbx.cells
     refine bodyPost_ret (v := aggP ⟨4, 0, 0, 0, 0, .slice A n cap⟩) (by simp only at s0 s1 s2 s3 s4 s5; simp [results, Tryz.results66, go_sem, s0, s1, s2, s3, s4, s5]) rfl ?_
     rw [HO.out]
     exact hok
theorem infix_step2 (sep : Option UInt8) (hmore : MoreC 2 sep) (one : List UInt8 → Option (RX × List UInt8)) (heat : Eats one) (g : Nat) (s : ByteArray) (dp : Nat) (hs : s.size ≤ 1000000000)
  (hone : ∀ l w, PrsL g s l dp w → EnvG g w → Calls Tryz.prog 66 #[.pointer (some ⟨g, 0, none⟩), .int .i64 3] w (OkQ g w (one l) s dp))
  (l : List UInt8) (w : World) (h : PrsL g s l dp w) (he : EnvG g w) :
  Calls Tryz.prog 66 #[.pointer (some ⟨g, 0, none⟩), .int .i64 2] w (OkQ g w (infP 6 sep one l) s dp) := by
 have HS := Lib.hid hs
 have HA0 := Lib.hid (AtS.start h he)
 have HMORE := Lib.hid hmore
 have HONE := Lib.hid hone
 have HEAT := Lib.hid heat
 have HO := Lib.hid (infP_map 6 sep one l)
 generalize infP 6 sep one l = O at *
 clear hs h he hmore hone heat
 have hwr2 : IntKind.i64.wrap 2 = 2 := rfl
 have hwr3 : IntKind.i64.wrap 3 = 3 := rfl
 have hwr4 : IntKind.i64.wrap 4 = 4 := rfl
 go_enter Tryz.func66, Tryz.ntmps66
 go_upto_region 1 with fail
 have hz0 : (World.alloc w (.cells #[.int .i64 0, .int .i64 0, .int .i64 0, .int .i64 0, .int .i64 0, .slice none 0 0] 45)).heap.size = w.heap.size + 1 := by simp
 have HZ := Lib.hid hz0
 clear hz0
 generalize World.alloc w _ = w1 at *
 go_upto_region 4 with fail
 go_cut [6] (fun v6 wx => ∃ (b : Nat) (v : Value) (cs : List PC) (ps : List RX) (r : List UInt8), v6 = .pointer (some ⟨b, 0, none⟩) ∧ Hid (AtS g s r dp w wx) ∧ Hid (BoxP b ⟨6, 0, 0, 0, 0, v⟩ wx) ∧ Hid (OwnP (fun x => w.heap.size < x ∧ x ≠ g ∧ x ≠ b) 0 wx v cs ps)
  ∧ Hid (w.heap.size < b ∧ (∀ x, v.ownBlock = some x → w.heap.size < x ∧ x ≠ g ∧ x ≠ b) ∧ ps.length + r.length ≤ s.size) ∧ Hid (O = (restP sep one (r.length + 1) ps r).map fun y => (joinP 6 y.1, y.2)))
 case first =>
  generalize hW : World.alloc w1 _ = w2
  obtain ⟨ha, -, hz, hb⟩ := alloc_of hW
  have HAR := Lib.hid (show ArrO w1.heap.size w2 from ha)
  have HA := Lib.hid (HA0.out.below hb)
  clear hW ha hz hb HA0
  replace HAR := Lib.hid (HAR.out.below (below_drewN (Below.refl _ _) 1))
  replace HA := Lib.hid (HA.out.below (below_drewN (Below.refl _ _) 1))
  have hd : w2.drewN 1 = w2.drew := rfl
  rw [hd] at HAR HA
  clear hd
  refine wpq_region (fun w' => ArrO w1.heap.size w') 10 (by kernel_rfl) HAR.out (fun hHeld => ?_)
  generalize w2.drew = w3 at *
  refine wpq_tk 0 (some 12) [1, 2, 8, 10] (Or.inl ⟨by rfl, fun w hSw => by (obtain ⟨a0, a1, a2, a3⟩ := ArrO.cells hSw; go_simp; with_reducible rfl)⟩) hHeld ?_ rfl rfl
  simp only [Act.put, sA, sZ, sS]
  refine wpq_tk 1 (some 13) [2, 8, 10] (Or.inl ⟨by rfl, fun w hSw => by (obtain ⟨a0, a1, a2, a3⟩ := ArrO.cells hSw; go_simp; with_reducible rfl)⟩) hHeld ?_ rfl rfl
  simp only [Act.put, sA, sZ, sS]
  refine wpq_tk 2 (some 14) [8, 10] (Or.inl ⟨by rfl, fun w hSw => by (obtain ⟨a0, a1, a2, a3⟩ := ArrO.cells hSw; go_simp; with_reducible rfl)⟩) hHeld ?_ rfl rfl
  simp only [Act.put, sA, sZ, sS]
  refine wpq_tk 3 (some 15) [6, 7, 8, 10] (Or.inl ⟨by rfl, fun w hSw => by (obtain ⟨a0, a1, a2, a3⟩ := ArrO.cells hSw; go_simp; with_reducible rfl)⟩) hHeld ?_ rfl rfl
  simp only [Act.put, sA, sZ, sS]
  refine wpq_tk 4 (some 16) [5, 6, 7, 8, 10] (Or.inl ⟨by rfl, fun w hSw => by (obtain ⟨a0, a1, a2, a3⟩ := ArrO.cells hSw; go_simp; with_reducible rfl)⟩) hHeld ?_ rfl rfl
  simp only [Act.put, sA, sZ, sS]
  refine wpq_tk 5 (some 17) [6, 7, 8, 10] (Or.inl ⟨by rfl, fun w hSw => by (obtain ⟨a0, a1, a2, a3⟩ := ArrO.cells hSw; go_simp; with_reducible rfl)⟩) hHeld ?_ rfl rfl
  simp only [Act.put, sA, sZ, sS]

  refine wpq_two 6 9 (by kernel_rfl) rfl rfl (fun K hK => ?_) (fun K hK => ?_)
  ·go_simp
   refine (HONE.out l w3 HA.out.1 HA.out.2.1).mono ?_
   rintro e w4 ⟨hk, hx⟩
   cases hol : one l with
   | none =>
    rw [hol] at hx HO
    obtain ⟨v, rfl⟩ := hx
    have HOn : Hid (O = none) := HO
    clear hHeld
    rw [HOn.out]
    exact ⟨rfl, HA.out.2.2.1.trans hk, v, rfl⟩
   | some x =>
    obtain ⟨p, r⟩ := x
    rw [hol] at hx HO
    have hlt := HEAT.out l p r hol
    have hll := HA.out.1.len
    have HLEN : Hid (1 + r.length ≤ s.size) := by unfold Hid; omega
    obtain ⟨c, rfl, hc, hx⟩ := hx
    have hsz := HA.out.2.2.2.1.lt
    replace HAR := Lib.hid (HAR.out.pk hk (by have := HA.out.2.2.2.2; have := HZ.out; omega))

    have HCp := Lib.hid (hc.mono (M := fun x => w.heap.size < x ∧ x ≠ g) (fun x h1 h2 => by have := HA.out.2.2.2.2; omega))

    replace HA := Lib.hid (HA.out.go hk hx)
    dsimp only at HA HCp
    clear hk hx hol hc hsz hHeld hlt hll
    refine hK.out _ _ HAR.out (fun hHeld => ?_)
    clear hK K
    refine wpq_two 7 9 (by kernel_rfl) rfl rfl (fun K hK => ?_) (fun K hK => ?_)
    ·go_simp
     generalize hW : World.alloc w4 _ = w5
     obtain ⟨ha, -, hz, hb⟩ := alloc_of hW
     have HM := Lib.hid (show BoxP w4.heap.size c w5 from ha)
     have HMG : Hid (w.heap.size < w4.heap.size ∧ g < w.heap.size) := ⟨HA.out.2.2.2.1.lt, HA.out.2.2.2.2⟩

     replace HCp := Lib.hid ((HCp.out.mono (M := fun x => (w.heap.size < x ∧ x ≠ g) ∧ x ≠ w4.heap.size) (fun x h1 h2 => ⟨h1, by omega⟩)).stay hb)

     replace HA := Lib.hid (HA.out.below hb)
     replace HAR := Lib.hid (HAR.out.below hb)
     clear hW ha hz hb hHeld
     refine hK.out _ _ HAR.out (fun hHeld => ?_)
     clear hK K
     refine wpq_tk 8 (some 20) [10] (Or.inl ⟨by rfl, fun w hSw => by (go_simp; with_reducible rfl)⟩) hHeld ?_ rfl rfl
     simp only [Act.put, sA, sZ, sS]

     refine wpq_one 9 (by kernel_rfl) rfl (fun K hK => ?_)

     go_simp
     generalize hW : World.alloc w5 _ = w6
     obtain ⟨ha, -, hz, hb⟩ := alloc_of hW
     have HB := Lib.hid (show BoxP w5.heap.size ⟨0, 0, 0, 0, 0, .slice none 0 0⟩ w6 from ha)
     have HBG : Hid (w.heap.size < w5.heap.size ∧ g < w.heap.size) := ⟨HA.out.2.2.2.1.lt, HA.out.2.2.2.2⟩
     replace HA := Lib.hid (HA.out.below hb)
     replace HAR := Lib.hid (HAR.out.below hb)

     have HMB : Hid (w4.heap.size ≠ w5.heap.size) := by unfold Hid; have := HM.out.lt; omega
     replace HM := Lib.hid (HM.out.below hb)
     replace HCp := Lib.hid ((HCp.out.mono (M := fun x => (w.heap.size < x ∧ x ≠ g ∧ x ≠ w5.heap.size) ∧ x ≠ w4.heap.size) (fun x h1 h2 => ⟨⟨h1.1.1, h1.1.2, by omega⟩, h1.2⟩)).stay hb)

     clear hW ha hz hb hHeld
     refine hK.out _ _ HAR.out (fun hHeld => ?_)
     clear hK K

     refine wpq_end 10 (by kernel_rfl) rfl (by kernel_rfl) (fun K hK => ?_)
     obtain ⟨k0, k1, k2, k3, k4, k5⟩ := HB.out.free
     obtain ⟨r0, r1, r2, r3, r4, r5⟩ := HB.out.cells
     simp only at r0 r1 r2 r3 r4 r5
     go_simp
     generalize hW : World.setCell _ _ _ = w9
     obtain ⟨hb1, hb2⟩ := HB.out.set (d := ⟨6, 0, 0, 0, 0, .slice (some ⟨w4.heap.size, 0, none⟩) 1 1⟩) hW
     have hot := set6_other hW
     replace HA := Lib.hid (HA.out.own hb2 hot HBG.out.1)
     replace HM := Lib.hid (show BoxP w4.heap.size c w9 from (hot _ HMB.out).trans HM.out)
     replace HCp := Lib.hid (HCp.out.keep (w' := w9) (fun x hx _ => hot x hx.1.2.2))
     replace HB := Lib.hid hb1
     clear hW hb1 hb2 hot k0 k1 k2 k3 k4 k5 r0 r1 r2 r3 r4 r5 hHeld
     refine hK.out _ _ ?_
     clear hK K
     refine wpq_done (by kernel_rfl) ?_ _
     go_simp
     go_wp2_with fail
     go_meet
     exact ⟨w5.heap.size, _, [c], [p], r, rfl, HA.out, HB.out, OwnP.one (HM.out) (HCp.out), ⟨HBG.out.1, by intro x hx; rw [own_one hx]; exact ⟨HMG.out.1, by have := HMG.out; omega, HMB.out⟩, by simpa using HLEN.out⟩, HO⟩
    ·go_simp
     generalize hW : World.alloc w4 _ = w5
     obtain ⟨ha, -, hz, hb⟩ := alloc_of hW
     have HB := Lib.hid (show BoxP w4.heap.size ⟨0, 0, 0, 0, 0, .slice none 0 0⟩ w5 from ha)
     have HBG : Hid (w.heap.size < w4.heap.size ∧ g < w.heap.size) := ⟨HA.out.2.2.2.1.lt, HA.out.2.2.2.2⟩
     replace HA := Lib.hid (HA.out.below hb)
     replace HAR := Lib.hid (HAR.out.below hb)

     replace HCp := Lib.hid ((HCp.out.mono (M := fun x => w.heap.size < x ∧ x ≠ g ∧ x ≠ w4.heap.size) (fun x h1 h2 => ⟨h1.1, h1.2, by omega⟩)).stay hb)

     clear hW ha hz hb hHeld
     refine hK.out _ _ HAR.out (fun hHeld => ?_)
     clear hK K

     refine wpq_one 7 (by kernel_rfl) rfl (fun K hK => ?_)

     go_simp
     generalize hW : World.alloc w5 _ = w6
     obtain ⟨ha, -, hz, hb⟩ := alloc_of hW
     have HM := Lib.hid (show BoxP w5.heap.size c w6 from ha)
     have HMG : Hid (w.heap.size < w5.heap.size ∧ g < w.heap.size) := ⟨HA.out.2.2.2.1.lt, HA.out.2.2.2.2⟩

     have HMB : Hid (w5.heap.size ≠ w4.heap.size) := by unfold Hid; have := HB.out.lt; omega
     replace HB := Lib.hid (HB.out.below hb)
     replace HCp := Lib.hid ((HCp.out.mono (M := fun x => (w.heap.size < x ∧ x ≠ g ∧ x ≠ w4.heap.size) ∧ x ≠ w5.heap.size) (fun x h1 h2 => ⟨h1, by omega⟩)).stay hb)

     replace HA := Lib.hid (HA.out.below hb)
     replace HAR := Lib.hid (HAR.out.below hb)
     clear hW ha hz hb hHeld
     refine hK.out _ _ HAR.out (fun hHeld => ?_)
     clear hK K
     refine wpq_tk 8 (some 20) [10] (Or.inl ⟨by rfl, fun w hSw => by (go_simp; with_reducible rfl)⟩) hHeld ?_ rfl rfl
     simp only [Act.put, sA, sZ, sS]

     refine wpq_end 10 (by kernel_rfl) rfl (by kernel_rfl) (fun K hK => ?_)
     obtain ⟨k0, k1, k2, k3, k4, k5⟩ := HB.out.free
     obtain ⟨r0, r1, r2, r3, r4, r5⟩ := HB.out.cells
     simp only at r0 r1 r2 r3 r4 r5
     go_simp
     generalize hW : World.setCell _ _ _ = w9
     obtain ⟨hb1, hb2⟩ := HB.out.set (d := ⟨6, 0, 0, 0, 0, .slice (some ⟨w5.heap.size, 0, none⟩) 1 1⟩) hW
     have hot := set6_other hW
     replace HA := Lib.hid (HA.out.own hb2 hot HBG.out.1)
     replace HM := Lib.hid (show BoxP w5.heap.size c w9 from (hot _ HMB.out).trans HM.out)
     replace HCp := Lib.hid (HCp.out.keep (w' := w9) (fun x hx _ => hot x hx.1.2.2))
     replace HB := Lib.hid hb1
     clear hW hb1 hb2 hot k0 k1 k2 k3 k4 k5 r0 r1 r2 r3 r4 r5 hHeld
     refine hK.out _ _ ?_
     clear hK K
     refine wpq_done (by kernel_rfl) ?_ _
     go_simp
     go_wp2_with fail
     go_meet
     exact ⟨w4.heap.size, _, [c], [p], r, rfl, HA.out, HB.out, OwnP.one (HM.out) (HCp.out), ⟨HBG.out.1, by intro x hx; rw [own_one hx]; exact ⟨HMG.out.1, by have := HMG.out; omega, HMB.out⟩, by simpa using HLEN.out⟩, HO⟩
  ·go_simp
   generalize hW : World.alloc w3 _ = w4
   obtain ⟨ha, -, hz, hb⟩ := alloc_of hW
   have HB := Lib.hid (show BoxP w3.heap.size ⟨0, 0, 0, 0, 0, .slice none 0 0⟩ w4 from ha)
   have HBG : Hid (w.heap.size < w3.heap.size ∧ g < w.heap.size) := ⟨HA.out.2.2.2.1.lt, HA.out.2.2.2.2⟩
   replace HA := Lib.hid (HA.out.below hb)
   replace HAR := Lib.hid (HAR.out.below hb)

   clear hW ha hz hb hHeld
   refine hK.out _ _ HAR.out (fun hHeld => ?_)
   clear hK K

   refine wpq_one 6 (by kernel_rfl) rfl (fun K hK => ?_)

   go_simp
   refine (HONE.out l w4 HA.out.1 HA.out.2.1).mono ?_
   rintro e w5 ⟨hk, hx⟩
   cases hol : one l with
   | none =>
    rw [hol] at hx HO
    obtain ⟨v, rfl⟩ := hx
    have HOn : Hid (O = none) := HO
    clear hHeld
    rw [HOn.out]
    exact ⟨rfl, HA.out.2.2.1.trans hk, v, rfl⟩
   | some x =>
    obtain ⟨p, r⟩ := x
    rw [hol] at hx HO
    have hlt := HEAT.out l p r hol
    have hll := HA.out.1.len
    have HLEN : Hid (1 + r.length ≤ s.size) := by unfold Hid; omega
    obtain ⟨c, rfl, hc, hx⟩ := hx
    have hsz := HA.out.2.2.2.1.lt
    replace HAR := Lib.hid (HAR.out.pk hk (by have := HA.out.2.2.2.2; have := HZ.out; omega))

    have HCp := Lib.hid (hc.mono (M := fun x => w.heap.size < x ∧ x ≠ g ∧ x ≠ w3.heap.size) (fun x h1 h2 => by have := HA.out.2.2.2.2; have := HB.out.lt; omega))
    replace HB := Lib.hid (HB.out.pk hk (by have := HA.out.2.2.2.2; have := HBG.out; omega))

    replace HA := Lib.hid (HA.out.go hk hx)
    dsimp only at HA HCp
    clear hk hx hol hc hsz hHeld hlt hll
    refine hK.out _ _ HAR.out (fun hHeld => ?_)
    clear hK K
    refine wpq_one 7 (by kernel_rfl) rfl (fun K hK => ?_)

    go_simp
    generalize hW : World.alloc w5 _ = w6
    obtain ⟨ha, -, hz, hb⟩ := alloc_of hW
    have HM := Lib.hid (show BoxP w5.heap.size c w6 from ha)
    have HMG : Hid (w.heap.size < w5.heap.size ∧ g < w.heap.size) := ⟨HA.out.2.2.2.1.lt, HA.out.2.2.2.2⟩

    have HMB : Hid (w5.heap.size ≠ w3.heap.size) := by unfold Hid; have := HB.out.lt; omega
    replace HB := Lib.hid (HB.out.below hb)
    replace HCp := Lib.hid ((HCp.out.mono (M := fun x => (w.heap.size < x ∧ x ≠ g ∧ x ≠ w3.heap.size) ∧ x ≠ w5.heap.size) (fun x h1 h2 => ⟨h1, by omega⟩)).stay hb)

    replace HA := Lib.hid (HA.out.below hb)
    replace HAR := Lib.hid (HAR.out.below hb)
    clear hW ha hz hb hHeld
    refine hK.out _ _ HAR.out (fun hHeld => ?_)
    clear hK K
    refine wpq_tk 8 (some 20) [10] (Or.inl ⟨by rfl, fun w hSw => by (go_simp; with_reducible rfl)⟩) hHeld ?_ rfl rfl
    simp only [Act.put, sA, sZ, sS]

    refine wpq_end 10 (by kernel_rfl) rfl (by kernel_rfl) (fun K hK => ?_)
    obtain ⟨k0, k1, k2, k3, k4, k5⟩ := HB.out.free
    obtain ⟨r0, r1, r2, r3, r4, r5⟩ := HB.out.cells
    simp only at r0 r1 r2 r3 r4 r5
    go_simp
    generalize hW : World.setCell _ _ _ = w9
    obtain ⟨hb1, hb2⟩ := HB.out.set (d := ⟨6, 0, 0, 0, 0, .slice (some ⟨w5.heap.size, 0, none⟩) 1 1⟩) hW
    have hot := set6_other hW
    replace HA := Lib.hid (HA.out.own hb2 hot HBG.out.1)
    replace HM := Lib.hid (show BoxP w5.heap.size c w9 from (hot _ HMB.out).trans HM.out)
    replace HCp := Lib.hid (HCp.out.keep (w' := w9) (fun x hx _ => hot x hx.1.2.2))
    replace HB := Lib.hid hb1
    clear hW hb1 hb2 hot k0 k1 k2 k3 k4 k5 r0 r1 r2 r3 r4 r5 hHeld
    refine hK.out _ _ ?_
    clear hK K
    refine wpq_done (by kernel_rfl) ?_ _
    go_simp
    go_wp2_with fail
    go_meet
    exact ⟨w3.heap.size, _, [c], [p], r, rfl, HA.out, HB.out, OwnP.one (HM.out) (HCp.out), ⟨HBG.out.1, by intro x hx; rw [own_one hx]; exact ⟨HMG.out.1, by have := HMG.out; omega, HMB.out⟩, by simpa using HLEN.out⟩, HO⟩
 case rest =>
  clear HO HA0 HZ hwr2 hwr3
  obtain ⟨b, v, cs, ps, r, rfl, HA, HB, HW, HG, HO⟩ := hcut
  go_wp2_with fail
  go_loopw [23] (fun _ wr => ∃ (v : Value) (cs : List PC) (ps : List RX) (r : List UInt8), Hid (AtS g s r dp w wr) ∧ Hid (BoxP b ⟨6, 0, 0, 0, 0, v⟩ wr) ∧ Hid (OwnP (fun x => w.heap.size < x ∧ x ≠ g ∧ x ≠ b) 0 wr v cs ps)
   ∧ Hid (w.heap.size < b ∧ (∀ x, v.ownBlock = some x → w.heap.size < x ∧ x ≠ g ∧ x ≠ b) ∧ ps.length + r.length ≤ s.size) ∧ Hid (O = (restP sep one (r.length + 1) ps r).map fun y => (joinP 6 y.1, y.2))) (fun _ wr => leftG g s wr)
  case atStart => exact ⟨v, cs, ps, r, HA, HB, HW, HG, HO⟩
  case round =>
   clear HA HB HW HG HO
   obtain ⟨v, cs, ps, r, HA, HB, HW, HG, HO⟩ := hrel
   have HLF := Lib.hid (left_of HA.out.1)
   obtain ⟨A, cap, hv, -⟩ := HW.out.slx.1
   obtain ⟨n, hn⟩ : ∃ n, n = ps.length := ⟨_, rfl⟩
   rw [← hn] at hv
   have HN := Lib.hid hn
   subst hv
   clear hn
   go_wp2_with fail
   refine (HMORE.out g s r dp wr HA.out.1 HS.out).mono ?_
   rintro e w4 ⟨rfl, hx, hk⟩
   have HBd := Lib.hid (HB.out.pk hk (by have := HG.out.1; have := HA.out.2.2.2.2; omega))
   replace HW := Lib.hid (HW.out.keep2 (w' := w4) (fun x hx hl => hk.keep x (by rcases hx with hx | hx; exact hx.2.1; exact (HG.out.2.1 x hx).2.1) hl))
   replace HA := Lib.hid (HA.out.go hk hx)
   clear hk hx HB
   cases hmo : moreP sep r with
   | some r2 =>
    rw [hmo] at HA
    dsimp only [Option.isSome_some, Option.getD_some] at HA ⊢
    have HMO := Lib.hid hmo
    clear hmo
    go_upto_region 6 with fail
    replace HA := Lib.hid (HA.out.below (below_drewN (Below.refl _ _) 1))
    replace HBd := Lib.hid (HBd.out.below (below_drewN (Below.refl _ _) 1))
    replace HW := Lib.hid (HW.out.keep2 (w' := w4.drewN 1) (fun x _ _ => rfl))
    have hd : w4.drewN 1 = w4.drew := rfl
    rw [hd] at HA HBd HW
    clear hd
    refine wpq_region (fun w' => BoxP b ⟨6, 0, 0, 0, 0, .slice A n cap⟩ w') 9 (by kernel_rfl) HBd.out (fun hHeld => ?_)
    generalize w4.drew = wd at *
    refine wpq_tk 0 (some 24) [1, 7, 9] (Or.inl ⟨by rfl, fun w hSw => by (obtain ⟨a0, a1, a2, a3, a4, a5⟩ := BoxP.cells hSw; go_simp; with_reducible rfl)⟩) hHeld ?_ rfl rfl
    simp only [Act.put, sA, sZ, sS]
    refine wpq_tk 1 (some 25) [7, 9] (Or.inl ⟨by rfl, fun w hSw => by (obtain ⟨a0, a1, a2, a3, a4, a5⟩ := BoxP.cells hSw; go_simp; with_reducible rfl)⟩) hHeld ?_ rfl rfl
    simp only [Act.put, sA, sZ, sS]
    refine wpq_tk 2 (some 26) [5, 6, 7, 9] (Or.inl ⟨by rfl, fun w hSw => by (obtain ⟨a0, a1, a2, a3, a4, a5⟩ := BoxP.cells hSw; go_simp; with_reducible rfl)⟩) hHeld ?_ rfl rfl
    simp only [Act.put, sA, sZ, sS]
    refine wpq_tk 3 (some 27) [4, 5, 6, 7, 9] (Or.inl ⟨by rfl, fun w hSw => by (obtain ⟨a0, a1, a2, a3, a4, a5⟩ := BoxP.cells hSw; go_simp; with_reducible rfl)⟩) hHeld ?_ rfl rfl
    simp only [Act.put, sA, sZ, sS]
    refine wpq_tk 4 (some 28) [5, 6, 7, 9] (Or.inl ⟨by rfl, fun w hSw => by (obtain ⟨a0, a1, a2, a3, a4, a5⟩ := BoxP.cells hSw; go_simp; with_reducible rfl)⟩) hHeld ?_ rfl rfl
    simp only [Act.put, sA, sZ, sS]

    refine wpq_one 5 (by kernel_rfl) rfl (fun K hK => ?_)
    go_simp
    refine (HONE.out r2 wd HA.out.1 HA.out.2.1).mono ?_
    rintro e w5 ⟨hk, hx⟩
    cases hol : one r2 with
    | none =>
     rw [hol] at hx
     obtain ⟨v, rfl⟩ := hx
     have HOn : Hid (O = none) := by unfold Hid; rw [HO.out, rest_bad HMO.out hol]; rfl
     have HPN := Lib.hid (HA.out.2.2.1.trans hk)
     clear hHeld hk hol
     go_wp2_with fail
     rw [HOn.out]
     exact ⟨rfl, HPN.out, v, rfl⟩
    | some x =>
     obtain ⟨p, r3⟩ := x
     rw [hol] at hx
     replace HO : Hid (O = (restP sep one (r3.length + 1) (ps ++ [p]) r3).map fun y => (joinP 6 y.1, y.2)) := by unfold Hid; rw [HO.out, rest_step HEAT.out HMO.out hol]
     have hl1 := HEAT.out _ _ _ hol
     have hl2 := more_le HMO.out
     have HLT : Hid (r3.length < r.length) := by unfold Hid; omega
     obtain ⟨c, rfl, hc, hx⟩ := hx
     have hsz := HA.out.1.lt
     have HCp := Lib.hid (hc.mono (M := fun x => (w.heap.size < x ∧ x ≠ g ∧ x ≠ b) ∧ some x ≠ (Value.slice A n cap).ownBlock) (fun x h1 h2 => ⟨⟨by have := HA.out.2.2.2.1.lt; omega, by omega, by have := HBd.out.lt; omega⟩, fun he => by have := (HW.out.1.lt x he.symm).2; omega⟩))
     replace HW := Lib.hid (HW.out.keep2 (w' := w5) (fun x hx hl => hk.keep x (by rcases hx with hx | hx; exact hx.2.1; exact (HG.out.2.1 x hx).2.1) hl))
     replace HBd := Lib.hid (HBd.out.pk hk (by have := HG.out.1; have := HA.out.2.2.2.2; omega))
     replace HA := Lib.hid (HA.out.go hk hx)
     dsimp only at HA HCp
     clear hk hx hol hc hsz hHeld hl1 hl2
     refine hK.out _ _ HBd.out (fun hHeld => ?_)
     clear hK K
     refine wpq_one 6 (by kernel_rfl) rfl (fun K hK => ?_)
     go_simp
     have hb5 : Below w5.heap.size w5 (w5.alloc (.cells c.cells.toArray 45)) := (Below.refl _ _).alloc (Nat.le_refl _) _
     clear hHeld
     refine hK.out _ _ (HBd.out.below hb5) (fun hHeld => ?_)
     clear hK K hHeld hb5
     refine wpq_one 7 (by kernel_rfl) rfl (fun K hK => ?_)
     refine step_pushP (N := fun x => w.heap.size < x ∧ x ≠ g ∧ x ≠ b) (B := 0) (c := c) (p := p) (v := .slice A n cap) (cs := cs) (ps := ps) rfl _ _ rfl HW.out HCp.out rfl rfl rfl ?hn (Nat.zero_le _) ?_
     case hn =>
      have h1 := HW.out.2.1
      have h2 := HG.out.2.2
      have h3 := HS.out
      have h4 := HLT.out
      omega
     rintro v' w6 hown hg ⟨A2, cap2, rfl⟩ hat
     have HOWN := Lib.hid hown
     have HBd6 := Lib.hid (show BoxP b ⟨6, 0, 0, 0, 0, .slice A n cap⟩ w6 from (hg.block b HBd.out.lt (fun he => (HG.out.2.1 b he.symm).2.2 rfl)).trans HBd.out)
     have hpx : AtS g s r3 dp w w6 := by
      obtain ⟨a1, ⟨u, a2, a3, a4⟩, a5, a6, a7⟩ := HA.out
      have ho : ∀ x, x < w.heap.size + 1 → x < w5.heap.size → w6.heap[x]? = w5.heap[x]? := fun x h1 h2 => hg.block x h2 (fun he => by have := (HG.out.2.1 x he.symm).1; omega)
      have hbel : Below (w.heap.size + 1) w5 w6 := ⟨hg.os, hg.tape, hg.output, hg.size, fun x hx => ho x hx (by have := a6.lt; omega)⟩
      exact ⟨a1.keep (ho g (by omega) a1.lt), ⟨u, a2, a3, a4.trans (hbel.mono (by omega))⟩, a5.top hbel (by omega) (by omega), (ho _ (by omega) a6.lt).trans a6, a7⟩
     have hsz6 := hg.size
     have hown' : ∀ x, (Value.slice A2 (cs.length + 1) cap2).ownBlock = some x → w.heap.size < x ∧ x ≠ g ∧ x ≠ b := by
      intro x hx
      rcases hat with hat | ⟨k, hk, hat⟩
      ·exact HG.out.2.1 x (hat ▸ hx)
      ·rw [hat] at hx
       cases hx
       have := HA.out.2.2.2.1.lt
       have := HA.out.2.2.2.2
       have := HBd.out.lt
       omega
     replace HA := Lib.hid hpx
     replace HG : Hid (w.heap.size < b ∧ (∀ x, (Value.slice A2 (cs.length + 1) cap2).ownBlock = some x → w.heap.size < x ∧ x ≠ g ∧ x ≠ b) ∧ (ps ++ [p]).length + r3.length ≤ s.size) := ⟨HG.out.1, hown', by have := HG.out.2.2; have := HLT.out; rw [List.length_append]; simp only [List.length_cons, List.length_nil]; omega⟩
     clear hown hg hat hpx hsz6 hown'
     refine hK.out _ _ HBd6.out (fun hHeld => ?_)
     clear hK K
     refine wpq_tk 8 (some 32) [9] (Or.inl ⟨by rfl, fun w hSw => by (go_simp; with_reducible rfl)⟩) hHeld ?_ rfl rfl
     simp only [Act.put, List.setIfInBounds_toArray]

     refine wpq_end 9 (by kernel_rfl) rfl (by kernel_rfl) (fun K hK => ?_)
     have hfz : w6.frozen? ⟨b, 5, none⟩ = false := Lib.frozen_of_heap HBd6.out 5
     obtain ⟨t0, t1, t2, t3, t4, t5⟩ := HBd6.out.cells
     simp only at t5
     clear t0 t1 t2 t3 t4 hHeld
     go_simp
     generalize hW : World.setCell w6 _ _ = w7
     have hbb : Below b w6 w7 := hW ▸ (Below.refl _ _).setCell (p := ⟨b, 5, none⟩) (Nat.le_refl _) _
     have hot : ∀ x, x ≠ b → w7.heap[x]? = w6.heap[x]? := fun x hx => hW ▸ Below.heap_setCell _ _ _ _ hx
     have HB7 := Lib.hid (show BoxP b ⟨6, 0, 0, 0, 0, .slice A2 (cs.length + 1) cap2⟩ w7 from hW ▸ heap_setCell_same w6 b 5 _ _ (.slice A2 (cs.length + 1) cap2) HBd6.out)
     replace HA := Lib.hid (HA.out.own hbb hot HG.out.1)
     replace HOWN := Lib.hid (HOWN.out.keep2 (w' := w7) (fun x hx hl => hot x (by rcases hx with hx | hx; exact hx.2.2; exact (HG.out.2.1 x hx).2.2)))
     have HLF2 := Lib.hid (left_of HA.out.1)
     clear hW hbb hot hfz t5
     refine hK.out _ _ ?_
     clear hK K
     refine wpq_done (by kernel_rfl) ?_ _
     go_simp
     go_wp2_with fail
     refine ⟨⟨_, _, _, _, HA.out, HB7.out, HOWN.out, HG.out, HO.out⟩, ?_⟩
     have h1 := HLF.out
     have h2 := HLF2.out
     have h3 := HLT.out
     omega
   | none =>
    rw [hmo] at HA
    dsimp only [Option.isSome_none, Option.getD_none] at HA ⊢
    replace HO : Hid (O = some (joinP 6 ps, r)) := by
     unfold Hid
     rw [HO.out, rest_end hmo]
     rfl
    have HNL := Lib.hid (HW.out.slx.1)
    obtain ⟨k0, k1, k2, k3, k4, k5⟩ := HA.out.2.2.2.1.free
    obtain ⟨r0, r1, r2, r3, r4, r5⟩ := HA.out.2.2.2.1.cells
    obtain ⟨t0, t1, t2, t3, t4, t5⟩ := HBd.out.cells
    simp only at r0 r1 r2 r3 r4 r5 t0 t1 t2 t3 t4 t5
    have hnl : (n : Int) ≤ 9223372036854775807 := by
     obtain ⟨_, _, h1, h2, h3, -⟩ := HNL.out
     cases h1
     simp only [maxLen] at h3
     omega
    by_cases h1 : n = 1
    case pos =>
     have e1 : ((n : Int) == 1) = true := by rw [h1]; rfl
     have hpos : 0 < ps.length := by have := HN.out; omega
     obtain ⟨ga, oa, na, capa, c, hv, hob, hna, hga, hca, hq⟩ := HW.out.part 0 hpos
     cases hv
     have hj : joinP 6 ps = ps[0] := by
      match ps, HN.out, h1 with
      | [p], _, _ => rfl
      | [], h2, h3 => simp only [List.length_nil] at h2; omega
      | p :: q :: t, h2, h3 => simp only [List.length_cons] at h2; omega
     rw [hj] at HO
     have HQ := Lib.hid (hq.mono (M := fun b => w.heap.size < b) (fun x h _ => h.1.1))
     generalize ps[0] = p0 at *
     obtain ⟨qa, qcap, hqa⟩ := HQ.out.rd.forms
     generalize p0.args.length = pn at *
     obtain ⟨q0, q1, q2, q3, q4, q5⟩ := c
     simp only at hqa
     subst hqa
     obtain ⟨c0, c1, c2, c3, c4, c5⟩ := cells6 hca
     simp only [Nat.zero_mul, Nat.add_zero] at c0 c1 c2 c3 c4 c5
     have hn0 : (0 : Int) < (n : Int) := by omega
     have HN1 := Lib.hid h1
     clear h1 hca hq hpos hj hob hna HNL HW HN hga
     go_wp2_with fail
     generalize hW : World.setCell _ _ _ = w9
     obtain ⟨hbx, hok⟩ := HA.out.fin (d := ⟨q0, q1, q2, q3, q4, .slice qa pn qcap⟩) HQ.out hW
     obtain ⟨s0, s1, s2, s3, s4, s5⟩ := hbx.cells
     refine bodyPost_ret (v := aggP ⟨q0, q1, q2, q3, q4, .slice qa pn qcap⟩) (by simp only at s0 s1 s2 s3 s4 s5; simp [results, Tryz.results66, go_sem, s0, s1, s2, s3, s4, s5]) rfl ?_
     rw [HO.out]
     exact hok
    case neg =>
     have e1 : ((n : Int) == 1) = false := beq_false_of_ne (by omega)
     have hj : joinP 6 ps = .mk 6 0 0 0 0 ps := by
      match ps, HN.out, h1 with
      | [p], h2, h3 => simp only [List.length_cons, List.length_nil] at h2; omega
      | [], _, _ => rfl
      | p :: q :: t, _, _ => rfl
     rw [hj] at HO
     have HQ := Lib.hid ((HW.out.node2 (fun x hx => HG.out.2.1 x hx) 6 0 0 0 0).mono (M := fun b => w.heap.size < b) (fun x h _ => h.1))
     clear h1 hj HNL HW HN
     go_wp2_with fail
     generalize hW : World.setCell _ _ _ = w9
     obtain ⟨hbx, hok⟩ := HA.out.fin (d := ⟨6, 0, 0, 0, 0, .slice A n cap⟩) HQ.out hW
     obtain ⟨s0, s1, s2, s3, s4, s5⟩ := hbx.cells
     refine bodyPost_ret (v := aggP ⟨6, 0, 0, 0, 0, .slice A n cap⟩) (by simp only at s0 s1 s2 s3 s4 s5; simp [results, Tryz.results66, go_sem, s0, s1, s2, s3, s4, s5]) rfl ?_
     rw [HO.out]
     exact hok
theorem infix_step3 (sep : Option UInt8) (hmore : MoreC 3 sep) (one : List UInt8 → Option (RX × List UInt8)) (heat : Eats one) (g : Nat) (s : ByteArray) (dp : Nat) (hs : s.size ≤ 1000000000)
  (hone : ∀ l w, PrsL g s l dp w → EnvG g w → Calls Tryz.prog 66 #[.pointer (some ⟨g, 0, none⟩), .int .i64 4] w (OkQ g w (one l) s dp))
  (l : List UInt8) (w : World) (h : PrsL g s l dp w) (he : EnvG g w) :
  Calls Tryz.prog 66 #[.pointer (some ⟨g, 0, none⟩), .int .i64 3] w (OkQ g w (infP 3 sep one l) s dp) := by
 have HS := Lib.hid hs
 have HA0 := Lib.hid (AtS.start h he)
 have HMORE := Lib.hid hmore
 have HONE := Lib.hid hone
 have HEAT := Lib.hid heat
 have HO := Lib.hid (infP_map 3 sep one l)
 generalize infP 3 sep one l = O at *
 clear hs h he hmore hone heat
 have hwr2 : IntKind.i64.wrap 2 = 2 := rfl
 have hwr3 : IntKind.i64.wrap 3 = 3 := rfl
 have hwr4 : IntKind.i64.wrap 4 = 4 := rfl
 go_enter Tryz.func66, Tryz.ntmps66
 go_upto_region 1 with fail
 have hz0 : (World.alloc w (.cells #[.int .i64 0, .int .i64 0, .int .i64 0, .int .i64 0, .int .i64 0, .slice none 0 0] 45)).heap.size = w.heap.size + 1 := by simp
 have HZ := Lib.hid hz0
 clear hz0
 generalize World.alloc w _ = w1 at *
 go_upto_region 4 with fail
 go_cut [6] (fun v6 wx => ∃ (b : Nat) (v : Value) (cs : List PC) (ps : List RX) (r : List UInt8), v6 = .pointer (some ⟨b, 0, none⟩) ∧ Hid (AtS g s r dp w wx) ∧ Hid (BoxP b ⟨3, 0, 0, 0, 0, v⟩ wx) ∧ Hid (OwnP (fun x => w.heap.size < x ∧ x ≠ g ∧ x ≠ b) 0 wx v cs ps)
  ∧ Hid (w.heap.size < b ∧ (∀ x, v.ownBlock = some x → w.heap.size < x ∧ x ≠ g ∧ x ≠ b) ∧ ps.length + r.length ≤ s.size) ∧ Hid (O = (restP sep one (r.length + 1) ps r).map fun y => (joinP 3 y.1, y.2)))
 case first =>
  generalize hW : World.alloc w1 _ = w2
  obtain ⟨ha, -, hz, hb⟩ := alloc_of hW
  have HAR := Lib.hid (show ArrO w1.heap.size w2 from ha)
  have HA := Lib.hid (HA0.out.below hb)
  clear hW ha hz hb HA0
  replace HAR := Lib.hid (HAR.out.below (below_drewN (Below.refl _ _) 1))
  replace HA := Lib.hid (HA.out.below (below_drewN (Below.refl _ _) 1))
  have hd : w2.drewN 1 = w2.drew := rfl
  rw [hd] at HAR HA
  clear hd
  refine wpq_region (fun w' => ArrO w1.heap.size w') 10 (by kernel_rfl) HAR.out (fun hHeld => ?_)
  generalize w2.drew = w3 at *
  refine wpq_tk 0 (some 12) [1, 2, 8, 10] (Or.inl ⟨by rfl, fun w hSw => by (obtain ⟨a0, a1, a2, a3⟩ := ArrO.cells hSw; go_simp; with_reducible rfl)⟩) hHeld ?_ rfl rfl
  simp only [Act.put, sA, sZ, sS]
  refine wpq_tk 1 (some 13) [2, 8, 10] (Or.inl ⟨by rfl, fun w hSw => by (obtain ⟨a0, a1, a2, a3⟩ := ArrO.cells hSw; go_simp; with_reducible rfl)⟩) hHeld ?_ rfl rfl
  simp only [Act.put, sA, sZ, sS]
  refine wpq_tk 2 (some 14) [8, 10] (Or.inl ⟨by rfl, fun w hSw => by (obtain ⟨a0, a1, a2, a3⟩ := ArrO.cells hSw; go_simp; with_reducible rfl)⟩) hHeld ?_ rfl rfl
  simp only [Act.put, sA, sZ, sS]
  refine wpq_tk 3 (some 15) [6, 7, 8, 10] (Or.inl ⟨by rfl, fun w hSw => by (obtain ⟨a0, a1, a2, a3⟩ := ArrO.cells hSw; go_simp; with_reducible rfl)⟩) hHeld ?_ rfl rfl
  simp only [Act.put, sA, sZ, sS]
  refine wpq_tk 4 (some 16) [5, 6, 7, 8, 10] (Or.inl ⟨by rfl, fun w hSw => by (obtain ⟨a0, a1, a2, a3⟩ := ArrO.cells hSw; go_simp; with_reducible rfl)⟩) hHeld ?_ rfl rfl
  simp only [Act.put, sA, sZ, sS]
  refine wpq_tk 5 (some 17) [6, 7, 8, 10] (Or.inl ⟨by rfl, fun w hSw => by (obtain ⟨a0, a1, a2, a3⟩ := ArrO.cells hSw; go_simp; with_reducible rfl)⟩) hHeld ?_ rfl rfl
  simp only [Act.put, sA, sZ, sS]

  refine wpq_two 6 9 (by kernel_rfl) rfl rfl (fun K hK => ?_) (fun K hK => ?_)
  ·go_simp
   refine (HONE.out l w3 HA.out.1 HA.out.2.1).mono ?_
   rintro e w4 ⟨hk, hx⟩
   cases hol : one l with
   | none =>
    rw [hol] at hx HO
    obtain ⟨v, rfl⟩ := hx
    have HOn : Hid (O = none) := HO
    clear hHeld
    rw [HOn.out]
    exact ⟨rfl, HA.out.2.2.1.trans hk, v, rfl⟩
   | some x =>
    obtain ⟨p, r⟩ := x
    rw [hol] at hx HO
    have hlt := HEAT.out l p r hol
    have hll := HA.out.1.len
    have HLEN : Hid (1 + r.length ≤ s.size) := by unfold Hid; omega
    obtain ⟨c, rfl, hc, hx⟩ := hx
    have hsz := HA.out.2.2.2.1.lt
    replace HAR := Lib.hid (HAR.out.pk hk (by have := HA.out.2.2.2.2; have := HZ.out; omega))

    have HCp := Lib.hid (hc.mono (M := fun x => w.heap.size < x ∧ x ≠ g) (fun x h1 h2 => by have := HA.out.2.2.2.2; omega))

    replace HA := Lib.hid (HA.out.go hk hx)
    dsimp only at HA HCp
    clear hk hx hol hc hsz hHeld hlt hll
    refine hK.out _ _ HAR.out (fun hHeld => ?_)
    clear hK K
    refine wpq_two 7 9 (by kernel_rfl) rfl rfl (fun K hK => ?_) (fun K hK => ?_)
    ·go_simp
     generalize hW : World.alloc w4 _ = w5
     obtain ⟨ha, -, hz, hb⟩ := alloc_of hW
     have HM := Lib.hid (show BoxP w4.heap.size c w5 from ha)
     have HMG : Hid (w.heap.size < w4.heap.size ∧ g < w.heap.size) := ⟨HA.out.2.2.2.1.lt, HA.out.2.2.2.2⟩

     replace HCp := Lib.hid ((HCp.out.mono (M := fun x => (w.heap.size < x ∧ x ≠ g) ∧ x ≠ w4.heap.size) (fun x h1 h2 => ⟨h1, by omega⟩)).stay hb)

     replace HA := Lib.hid (HA.out.below hb)
     replace HAR := Lib.hid (HAR.out.below hb)
     clear hW ha hz hb hHeld
     refine hK.out _ _ HAR.out (fun hHeld => ?_)
     clear hK K
     refine wpq_tk 8 (some 20) [10] (Or.inl ⟨by rfl, fun w hSw => by (go_simp; with_reducible rfl)⟩) hHeld ?_ rfl rfl
     simp only [Act.put, sA, sZ, sS]

     refine wpq_one 9 (by kernel_rfl) rfl (fun K hK => ?_)

     go_simp
     generalize hW : World.alloc w5 _ = w6
     obtain ⟨ha, -, hz, hb⟩ := alloc_of hW
     have HB := Lib.hid (show BoxP w5.heap.size ⟨0, 0, 0, 0, 0, .slice none 0 0⟩ w6 from ha)
     have HBG : Hid (w.heap.size < w5.heap.size ∧ g < w.heap.size) := ⟨HA.out.2.2.2.1.lt, HA.out.2.2.2.2⟩
     replace HA := Lib.hid (HA.out.below hb)
     replace HAR := Lib.hid (HAR.out.below hb)

     have HMB : Hid (w4.heap.size ≠ w5.heap.size) := by unfold Hid; have := HM.out.lt; omega
     replace HM := Lib.hid (HM.out.below hb)
     replace HCp := Lib.hid ((HCp.out.mono (M := fun x => (w.heap.size < x ∧ x ≠ g ∧ x ≠ w5.heap.size) ∧ x ≠ w4.heap.size) (fun x h1 h2 => ⟨⟨h1.1.1, h1.1.2, by omega⟩, h1.2⟩)).stay hb)

     clear hW ha hz hb hHeld
     refine hK.out _ _ HAR.out (fun hHeld => ?_)
     clear hK K

     refine wpq_end 10 (by kernel_rfl) rfl (by kernel_rfl) (fun K hK => ?_)
     obtain ⟨k0, k1, k2, k3, k4, k5⟩ := HB.out.free
     obtain ⟨r0, r1, r2, r3, r4, r5⟩ := HB.out.cells
     simp only at r0 r1 r2 r3 r4 r5
     go_simp
     generalize hW : World.setCell _ _ _ = w9
     obtain ⟨hb1, hb2⟩ := HB.out.set (d := ⟨3, 0, 0, 0, 0, .slice (some ⟨w4.heap.size, 0, none⟩) 1 1⟩) hW
     have hot := set6_other hW
     replace HA := Lib.hid (HA.out.own hb2 hot HBG.out.1)
     replace HM := Lib.hid (show BoxP w4.heap.size c w9 from (hot _ HMB.out).trans HM.out)
     replace HCp := Lib.hid (HCp.out.keep (w' := w9) (fun x hx _ => hot x hx.1.2.2))
     replace HB := Lib.hid hb1
     clear hW hb1 hb2 hot k0 k1 k2 k3 k4 k5 r0 r1 r2 r3 r4 r5 hHeld
     refine hK.out _ _ ?_
     clear hK K
     refine wpq_done (by kernel_rfl) ?_ _
     go_simp
     go_wp2_with fail
     go_meet
     exact ⟨w5.heap.size, _, [c], [p], r, rfl, HA.out, HB.out, OwnP.one (HM.out) (HCp.out), ⟨HBG.out.1, by intro x hx; rw [own_one hx]; exact ⟨HMG.out.1, by have := HMG.out; omega, HMB.out⟩, by simpa using HLEN.out⟩, HO⟩
    ·go_simp
     generalize hW : World.alloc w4 _ = w5
     obtain ⟨ha, -, hz, hb⟩ := alloc_of hW
     have HB := Lib.hid (show BoxP w4.heap.size ⟨0, 0, 0, 0, 0, .slice none 0 0⟩ w5 from ha)
     have HBG : Hid (w.heap.size < w4.heap.size ∧ g < w.heap.size) := ⟨HA.out.2.2.2.1.lt, HA.out.2.2.2.2⟩
     replace HA := Lib.hid (HA.out.below hb)
     replace HAR := Lib.hid (HAR.out.below hb)

     replace HCp := Lib.hid ((HCp.out.mono (M := fun x => w.heap.size < x ∧ x ≠ g ∧ x ≠ w4.heap.size) (fun x h1 h2 => ⟨h1.1, h1.2, by omega⟩)).stay hb)

     clear hW ha hz hb hHeld
     refine hK.out _ _ HAR.out (fun hHeld => ?_)
     clear hK K

     refine wpq_one 7 (by kernel_rfl) rfl (fun K hK => ?_)

     go_simp
     generalize hW : World.alloc w5 _ = w6
     obtain ⟨ha, -, hz, hb⟩ := alloc_of hW
     have HM := Lib.hid (show BoxP w5.heap.size c w6 from ha)
     have HMG : Hid (w.heap.size < w5.heap.size ∧ g < w.heap.size) := ⟨HA.out.2.2.2.1.lt, HA.out.2.2.2.2⟩

     have HMB : Hid (w5.heap.size ≠ w4.heap.size) := by unfold Hid; have := HB.out.lt; omega
     replace HB := Lib.hid (HB.out.below hb)
     replace HCp := Lib.hid ((HCp.out.mono (M := fun x => (w.heap.size < x ∧ x ≠ g ∧ x ≠ w4.heap.size) ∧ x ≠ w5.heap.size) (fun x h1 h2 => ⟨h1, by omega⟩)).stay hb)

     replace HA := Lib.hid (HA.out.below hb)
     replace HAR := Lib.hid (HAR.out.below hb)
     clear hW ha hz hb hHeld
     refine hK.out _ _ HAR.out (fun hHeld => ?_)
     clear hK K
     refine wpq_tk 8 (some 20) [10] (Or.inl ⟨by rfl, fun w hSw => by (go_simp; with_reducible rfl)⟩) hHeld ?_ rfl rfl
     simp only [Act.put, sA, sZ, sS]

     refine wpq_end 10 (by kernel_rfl) rfl (by kernel_rfl) (fun K hK => ?_)
     obtain ⟨k0, k1, k2, k3, k4, k5⟩ := HB.out.free
     obtain ⟨r0, r1, r2, r3, r4, r5⟩ := HB.out.cells
     simp only at r0 r1 r2 r3 r4 r5
     go_simp
     generalize hW : World.setCell _ _ _ = w9
     obtain ⟨hb1, hb2⟩ := HB.out.set (d := ⟨3, 0, 0, 0, 0, .slice (some ⟨w5.heap.size, 0, none⟩) 1 1⟩) hW
     have hot := set6_other hW
     replace HA := Lib.hid (HA.out.own hb2 hot HBG.out.1)
     replace HM := Lib.hid (show BoxP w5.heap.size c w9 from (hot _ HMB.out).trans HM.out)
     replace HCp := Lib.hid (HCp.out.keep (w' := w9) (fun x hx _ => hot x hx.1.2.2))
     replace HB := Lib.hid hb1
     clear hW hb1 hb2 hot k0 k1 k2 k3 k4 k5 r0 r1 r2 r3 r4 r5 hHeld
     refine hK.out _ _ ?_
     clear hK K
     refine wpq_done (by kernel_rfl) ?_ _
     go_simp
     go_wp2_with fail
     go_meet
     exact ⟨w4.heap.size, _, [c], [p], r, rfl, HA.out, HB.out, OwnP.one (HM.out) (HCp.out), ⟨HBG.out.1, by intro x hx; rw [own_one hx]; exact ⟨HMG.out.1, by have := HMG.out; omega, HMB.out⟩, by simpa using HLEN.out⟩, HO⟩
  ·go_simp
   generalize hW : World.alloc w3 _ = w4
   obtain ⟨ha, -, hz, hb⟩ := alloc_of hW
   have HB := Lib.hid (show BoxP w3.heap.size ⟨0, 0, 0, 0, 0, .slice none 0 0⟩ w4 from ha)
   have HBG : Hid (w.heap.size < w3.heap.size ∧ g < w.heap.size) := ⟨HA.out.2.2.2.1.lt, HA.out.2.2.2.2⟩
   replace HA := Lib.hid (HA.out.below hb)
   replace HAR := Lib.hid (HAR.out.below hb)

   clear hW ha hz hb hHeld
   refine hK.out _ _ HAR.out (fun hHeld => ?_)
   clear hK K

   refine wpq_one 6 (by kernel_rfl) rfl (fun K hK => ?_)

   go_simp
   refine (HONE.out l w4 HA.out.1 HA.out.2.1).mono ?_
   rintro e w5 ⟨hk, hx⟩
   cases hol : one l with
   | none =>
    rw [hol] at hx HO
    obtain ⟨v, rfl⟩ := hx
    have HOn : Hid (O = none) := HO
    clear hHeld
    rw [HOn.out]
    exact ⟨rfl, HA.out.2.2.1.trans hk, v, rfl⟩
   | some x =>
    obtain ⟨p, r⟩ := x
    rw [hol] at hx HO
    have hlt := HEAT.out l p r hol
    have hll := HA.out.1.len
    have HLEN : Hid (1 + r.length ≤ s.size) := by unfold Hid; omega
    obtain ⟨c, rfl, hc, hx⟩ := hx
    have hsz := HA.out.2.2.2.1.lt
    replace HAR := Lib.hid (HAR.out.pk hk (by have := HA.out.2.2.2.2; have := HZ.out; omega))

    have HCp := Lib.hid (hc.mono (M := fun x => w.heap.size < x ∧ x ≠ g ∧ x ≠ w3.heap.size) (fun x h1 h2 => by have := HA.out.2.2.2.2; have := HB.out.lt; omega))
    replace HB := Lib.hid (HB.out.pk hk (by have := HA.out.2.2.2.2; have := HBG.out; omega))

    replace HA := Lib.hid (HA.out.go hk hx)
    dsimp only at HA HCp
    clear hk hx hol hc hsz hHeld hlt hll
    refine hK.out _ _ HAR.out (fun hHeld => ?_)
    clear hK K
    refine wpq_one 7 (by kernel_rfl) rfl (fun K hK => ?_)

    go_simp
    generalize hW : World.alloc w5 _ = w6
    obtain ⟨ha, -, hz, hb⟩ := alloc_of hW
    have HM := Lib.hid (show BoxP w5.heap.size c w6 from ha)
    have HMG : Hid (w.heap.size < w5.heap.size ∧ g < w.heap.size) := ⟨HA.out.2.2.2.1.lt, HA.out.2.2.2.2⟩

    have HMB : Hid (w5.heap.size ≠ w3.heap.size) := by unfold Hid; have := HB.out.lt; omega
    replace HB := Lib.hid (HB.out.below hb)
    replace HCp := Lib.hid ((HCp.out.mono (M := fun x => (w.heap.size < x ∧ x ≠ g ∧ x ≠ w3.heap.size) ∧ x ≠ w5.heap.size) (fun x h1 h2 => ⟨h1, by omega⟩)).stay hb)

    replace HA := Lib.hid (HA.out.below hb)
    replace HAR := Lib.hid (HAR.out.below hb)
    clear hW ha hz hb hHeld
    refine hK.out _ _ HAR.out (fun hHeld => ?_)
    clear hK K
    refine wpq_tk 8 (some 20) [10] (Or.inl ⟨by rfl, fun w hSw => by (go_simp; with_reducible rfl)⟩) hHeld ?_ rfl rfl
    simp only [Act.put, sA, sZ, sS]

    refine wpq_end 10 (by kernel_rfl) rfl (by kernel_rfl) (fun K hK => ?_)
    obtain ⟨k0, k1, k2, k3, k4, k5⟩ := HB.out.free
    obtain ⟨r0, r1, r2, r3, r4, r5⟩ := HB.out.cells
    simp only at r0 r1 r2 r3 r4 r5
    go_simp
    generalize hW : World.setCell _ _ _ = w9
    obtain ⟨hb1, hb2⟩ := HB.out.set (d := ⟨3, 0, 0, 0, 0, .slice (some ⟨w5.heap.size, 0, none⟩) 1 1⟩) hW
    have hot := set6_other hW
    replace HA := Lib.hid (HA.out.own hb2 hot HBG.out.1)
    replace HM := Lib.hid (show BoxP w5.heap.size c w9 from (hot _ HMB.out).trans HM.out)
    replace HCp := Lib.hid (HCp.out.keep (w' := w9) (fun x hx _ => hot x hx.1.2.2))
    replace HB := Lib.hid hb1
    clear hW hb1 hb2 hot k0 k1 k2 k3 k4 k5 r0 r1 r2 r3 r4 r5 hHeld
    refine hK.out _ _ ?_
    clear hK K
    refine wpq_done (by kernel_rfl) ?_ _
    go_simp
    go_wp2_with fail
    go_meet
    exact ⟨w3.heap.size, _, [c], [p], r, rfl, HA.out, HB.out, OwnP.one (HM.out) (HCp.out), ⟨HBG.out.1, by intro x hx; rw [own_one hx]; exact ⟨HMG.out.1, by have := HMG.out; omega, HMB.out⟩, by simpa using HLEN.out⟩, HO⟩
 case rest =>
  clear HO HA0 HZ hwr2 hwr3
  obtain ⟨b, v, cs, ps, r, rfl, HA, HB, HW, HG, HO⟩ := hcut
  go_wp2_with fail
  go_loopw [23] (fun _ wr => ∃ (v : Value) (cs : List PC) (ps : List RX) (r : List UInt8), Hid (AtS g s r dp w wr) ∧ Hid (BoxP b ⟨3, 0, 0, 0, 0, v⟩ wr) ∧ Hid (OwnP (fun x => w.heap.size < x ∧ x ≠ g ∧ x ≠ b) 0 wr v cs ps)
   ∧ Hid (w.heap.size < b ∧ (∀ x, v.ownBlock = some x → w.heap.size < x ∧ x ≠ g ∧ x ≠ b) ∧ ps.length + r.length ≤ s.size) ∧ Hid (O = (restP sep one (r.length + 1) ps r).map fun y => (joinP 3 y.1, y.2))) (fun _ wr => leftG g s wr)
  case atStart => exact ⟨v, cs, ps, r, HA, HB, HW, HG, HO⟩
  case round =>
   clear HA HB HW HG HO
   obtain ⟨v, cs, ps, r, HA, HB, HW, HG, HO⟩ := hrel
   have HLF := Lib.hid (left_of HA.out.1)
   obtain ⟨A, cap, hv, -⟩ := HW.out.slx.1
   obtain ⟨n, hn⟩ : ∃ n, n = ps.length := ⟨_, rfl⟩
   rw [← hn] at hv
   have HN := Lib.hid hn
   subst hv
   clear hn
   go_wp2_with fail
   refine (HMORE.out g s r dp wr HA.out.1 HS.out).mono ?_
   rintro e w4 ⟨rfl, hx, hk⟩
   have HBd := Lib.hid (HB.out.pk hk (by have := HG.out.1; have := HA.out.2.2.2.2; omega))
   replace HW := Lib.hid (HW.out.keep2 (w' := w4) (fun x hx hl => hk.keep x (by rcases hx with hx | hx; exact hx.2.1; exact (HG.out.2.1 x hx).2.1) hl))
   replace HA := Lib.hid (HA.out.go hk hx)
   clear hk hx HB
   cases hmo : moreP sep r with
   | some r2 =>
    rw [hmo] at HA
    dsimp only [Option.isSome_some, Option.getD_some] at HA ⊢
    have HMO := Lib.hid hmo
    clear hmo
    go_upto_region 6 with fail
    replace HA := Lib.hid (HA.out.below (below_drewN (Below.refl _ _) 1))
    replace HBd := Lib.hid (HBd.out.below (below_drewN (Below.refl _ _) 1))
    replace HW := Lib.hid (HW.out.keep2 (w' := w4.drewN 1) (fun x _ _ => rfl))
    have hd : w4.drewN 1 = w4.drew := rfl
    rw [hd] at HA HBd HW
    clear hd
    refine wpq_region (fun w' => BoxP b ⟨3, 0, 0, 0, 0, .slice A n cap⟩ w') 9 (by kernel_rfl) HBd.out (fun hHeld => ?_)
    generalize w4.drew = wd at *
    refine wpq_tk 0 (some 24) [1, 7, 9] (Or.inl ⟨by rfl, fun w hSw => by (obtain ⟨a0, a1, a2, a3, a4, a5⟩ := BoxP.cells hSw; go_simp; with_reducible rfl)⟩) hHeld ?_ rfl rfl
    simp only [Act.put, sA, sZ, sS]
    refine wpq_tk 1 (some 25) [7, 9] (Or.inl ⟨by rfl, fun w hSw => by (obtain ⟨a0, a1, a2, a3, a4, a5⟩ := BoxP.cells hSw; go_simp; with_reducible rfl)⟩) hHeld ?_ rfl rfl
    simp only [Act.put, sA, sZ, sS]
    refine wpq_tk 2 (some 26) [5, 6, 7, 9] (Or.inl ⟨by rfl, fun w hSw => by (obtain ⟨a0, a1, a2, a3, a4, a5⟩ := BoxP.cells hSw; go_simp; with_reducible rfl)⟩) hHeld ?_ rfl rfl
    simp only [Act.put, sA, sZ, sS]
    refine wpq_tk 3 (some 27) [4, 5, 6, 7, 9] (Or.inl ⟨by rfl, fun w hSw => by (obtain ⟨a0, a1, a2, a3, a4, a5⟩ := BoxP.cells hSw; go_simp; with_reducible rfl)⟩) hHeld ?_ rfl rfl
    simp only [Act.put, sA, sZ, sS]
    refine wpq_tk 4 (some 28) [5, 6, 7, 9] (Or.inl ⟨by rfl, fun w hSw => by (obtain ⟨a0, a1, a2, a3, a4, a5⟩ := BoxP.cells hSw; go_simp; with_reducible rfl)⟩) hHeld ?_ rfl rfl
    simp only [Act.put, sA, sZ, sS]

    refine wpq_one 5 (by kernel_rfl) rfl (fun K hK => ?_)
    go_simp
    refine (HONE.out r2 wd HA.out.1 HA.out.2.1).mono ?_
    rintro e w5 ⟨hk, hx⟩
    cases hol : one r2 with
    | none =>
     rw [hol] at hx
     obtain ⟨v, rfl⟩ := hx
     have HOn : Hid (O = none) := by unfold Hid; rw [HO.out, rest_bad HMO.out hol]; rfl
     have HPN := Lib.hid (HA.out.2.2.1.trans hk)
     clear hHeld hk hol
     go_wp2_with fail
     rw [HOn.out]
     exact ⟨rfl, HPN.out, v, rfl⟩
    | some x =>
     obtain ⟨p, r3⟩ := x
     rw [hol] at hx
     replace HO : Hid (O = (restP sep one (r3.length + 1) (ps ++ [p]) r3).map fun y => (joinP 3 y.1, y.2)) := by unfold Hid; rw [HO.out, rest_step HEAT.out HMO.out hol]
     have hl1 := HEAT.out _ _ _ hol
     have hl2 := more_le HMO.out
     have HLT : Hid (r3.length < r.length) := by unfold Hid; omega
     obtain ⟨c, rfl, hc, hx⟩ := hx
     have hsz := HA.out.1.lt
     have HCp := Lib.hid (hc.mono (M := fun x => (w.heap.size < x ∧ x ≠ g ∧ x ≠ b) ∧ some x ≠ (Value.slice A n cap).ownBlock) (fun x h1 h2 => ⟨⟨by have := HA.out.2.2.2.1.lt; omega, by omega, by have := HBd.out.lt; omega⟩, fun he => by have := (HW.out.1.lt x he.symm).2; omega⟩))
     replace HW := Lib.hid (HW.out.keep2 (w' := w5) (fun x hx hl => hk.keep x (by rcases hx with hx | hx; exact hx.2.1; exact (HG.out.2.1 x hx).2.1) hl))
     replace HBd := Lib.hid (HBd.out.pk hk (by have := HG.out.1; have := HA.out.2.2.2.2; omega))
     replace HA := Lib.hid (HA.out.go hk hx)
     dsimp only at HA HCp
     clear hk hx hol hc hsz hHeld hl1 hl2
     refine hK.out _ _ HBd.out (fun hHeld => ?_)
     clear hK K
     refine wpq_one 6 (by kernel_rfl) rfl (fun K hK => ?_)
     go_simp
     have hb5 : Below w5.heap.size w5 (w5.alloc (.cells c.cells.toArray 45)) := (Below.refl _ _).alloc (Nat.le_refl _) _
     clear hHeld
     refine hK.out _ _ (HBd.out.below hb5) (fun hHeld => ?_)
     clear hK K hHeld hb5
     refine wpq_one 7 (by kernel_rfl) rfl (fun K hK => ?_)
     refine step_pushP (N := fun x => w.heap.size < x ∧ x ≠ g ∧ x ≠ b) (B := 0) (c := c) (p := p) (v := .slice A n cap) (cs := cs) (ps := ps) rfl _ _ rfl HW.out HCp.out rfl rfl rfl ?hn (Nat.zero_le _) ?_
     case hn =>
      have h1 := HW.out.2.1
      have h2 := HG.out.2.2
      have h3 := HS.out
      have h4 := HLT.out
      omega
     rintro v' w6 hown hg ⟨A2, cap2, rfl⟩ hat
     have HOWN := Lib.hid hown
     have HBd6 := Lib.hid (show BoxP b ⟨3, 0, 0, 0, 0, .slice A n cap⟩ w6 from (hg.block b HBd.out.lt (fun he => (HG.out.2.1 b he.symm).2.2 rfl)).trans HBd.out)
     have hpx : AtS g s r3 dp w w6 := by
      obtain ⟨a1, ⟨u, a2, a3, a4⟩, a5, a6, a7⟩ := HA.out
      have ho : ∀ x, x < w.heap.size + 1 → x < w5.heap.size → w6.heap[x]? = w5.heap[x]? := fun x h1 h2 => hg.block x h2 (fun he => by have := (HG.out.2.1 x he.symm).1; omega)
      have hbel : Below (w.heap.size + 1) w5 w6 := ⟨hg.os, hg.tape, hg.output, hg.size, fun x hx => ho x hx (by have := a6.lt; omega)⟩
      exact ⟨a1.keep (ho g (by omega) a1.lt), ⟨u, a2, a3, a4.trans (hbel.mono (by omega))⟩, a5.top hbel (by omega) (by omega), (ho _ (by omega) a6.lt).trans a6, a7⟩
     have hsz6 := hg.size
     have hown' : ∀ x, (Value.slice A2 (cs.length + 1) cap2).ownBlock = some x → w.heap.size < x ∧ x ≠ g ∧ x ≠ b := by
      intro x hx
      rcases hat with hat | ⟨k, hk, hat⟩
      ·exact HG.out.2.1 x (hat ▸ hx)
      ·rw [hat] at hx
       cases hx
       have := HA.out.2.2.2.1.lt
       have := HA.out.2.2.2.2
       have := HBd.out.lt
       omega
     replace HA := Lib.hid hpx
     replace HG : Hid (w.heap.size < b ∧ (∀ x, (Value.slice A2 (cs.length + 1) cap2).ownBlock = some x → w.heap.size < x ∧ x ≠ g ∧ x ≠ b) ∧ (ps ++ [p]).length + r3.length ≤ s.size) := ⟨HG.out.1, hown', by have := HG.out.2.2; have := HLT.out; rw [List.length_append]; simp only [List.length_cons, List.length_nil]; omega⟩
     clear hown hg hat hpx hsz6 hown'
     refine hK.out _ _ HBd6.out (fun hHeld => ?_)
     clear hK K
     refine wpq_tk 8 (some 32) [9] (Or.inl ⟨by rfl, fun w hSw => by (go_simp; with_reducible rfl)⟩) hHeld ?_ rfl rfl
     simp only [Act.put, List.setIfInBounds_toArray]

     refine wpq_end 9 (by kernel_rfl) rfl (by kernel_rfl) (fun K hK => ?_)
     have hfz : w6.frozen? ⟨b, 5, none⟩ = false := Lib.frozen_of_heap HBd6.out 5
     obtain ⟨t0, t1, t2, t3, t4, t5⟩ := HBd6.out.cells
     simp only at t5
     clear t0 t1 t2 t3 t4 hHeld
     go_simp
     generalize hW : World.setCell w6 _ _ = w7
     have hbb : Below b w6 w7 := hW ▸ (Below.refl _ _).setCell (p := ⟨b, 5, none⟩) (Nat.le_refl _) _
     have hot : ∀ x, x ≠ b → w7.heap[x]? = w6.heap[x]? := fun x hx => hW ▸ Below.heap_setCell _ _ _ _ hx
     have HB7 := Lib.hid (show BoxP b ⟨3, 0, 0, 0, 0, .slice A2 (cs.length + 1) cap2⟩ w7 from hW ▸ heap_setCell_same w6 b 5 _ _ (.slice A2 (cs.length + 1) cap2) HBd6.out)
     replace HA := Lib.hid (HA.out.own hbb hot HG.out.1)
     replace HOWN := Lib.hid (HOWN.out.keep2 (w' := w7) (fun x hx hl => hot x (by rcases hx with hx | hx; exact hx.2.2; exact (HG.out.2.1 x hx).2.2)))
     have HLF2 := Lib.hid (left_of HA.out.1)
     clear hW hbb hot hfz t5
     refine hK.out _ _ ?_
     clear hK K
     refine wpq_done (by kernel_rfl) ?_ _
     go_simp
     go_wp2_with fail
     refine ⟨⟨_, _, _, _, HA.out, HB7.out, HOWN.out, HG.out, HO.out⟩, ?_⟩
     have h1 := HLF.out
     have h2 := HLF2.out
     have h3 := HLT.out
     omega
   | none =>
    rw [hmo] at HA
    dsimp only [Option.isSome_none, Option.getD_none] at HA ⊢
    replace HO : Hid (O = some (joinP 3 ps, r)) := by
     unfold Hid
     rw [HO.out, rest_end hmo]
     rfl
    have HNL := Lib.hid (HW.out.slx.1)
    obtain ⟨k0, k1, k2, k3, k4, k5⟩ := HA.out.2.2.2.1.free
    obtain ⟨r0, r1, r2, r3, r4, r5⟩ := HA.out.2.2.2.1.cells
    obtain ⟨t0, t1, t2, t3, t4, t5⟩ := HBd.out.cells
    simp only at r0 r1 r2 r3 r4 r5 t0 t1 t2 t3 t4 t5
    have hnl : (n : Int) ≤ 9223372036854775807 := by
     obtain ⟨_, _, h1, h2, h3, -⟩ := HNL.out
     cases h1
     simp only [maxLen] at h3
     omega
    by_cases h1 : n = 1
    case pos =>
     have e1 : ((n : Int) == 1) = true := by rw [h1]; rfl
     have hpos : 0 < ps.length := by have := HN.out; omega
     obtain ⟨ga, oa, na, capa, c, hv, hob, hna, hga, hca, hq⟩ := HW.out.part 0 hpos
     cases hv
     have hj : joinP 3 ps = ps[0] := by
      match ps, HN.out, h1 with
      | [p], _, _ => rfl
      | [], h2, h3 => simp only [List.length_nil] at h2; omega
      | p :: q :: t, h2, h3 => simp only [List.length_cons] at h2; omega
     rw [hj] at HO
     have HQ := Lib.hid (hq.mono (M := fun b => w.heap.size < b) (fun x h _ => h.1.1))
     generalize ps[0] = p0 at *
     obtain ⟨qa, qcap, hqa⟩ := HQ.out.rd.forms
     generalize p0.args.length = pn at *
     obtain ⟨q0, q1, q2, q3, q4, q5⟩ := c
     simp only at hqa
     subst hqa
     obtain ⟨c0, c1, c2, c3, c4, c5⟩ := cells6 hca
     simp only [Nat.zero_mul, Nat.add_zero] at c0 c1 c2 c3 c4 c5
     have hn0 : (0 : Int) < (n : Int) := by omega
     have HN1 := Lib.hid h1
     clear h1 hca hq hpos hj hob hna HNL HW HN hga
     go_wp2_with fail
     generalize hW : World.setCell _ _ _ = w9
     obtain ⟨hbx, hok⟩ := HA.out.fin (d := ⟨q0, q1, q2, q3, q4, .slice qa pn qcap⟩) HQ.out hW
     obtain ⟨s0, s1, s2, s3, s4, s5⟩ := hbx.cells
     refine bodyPost_ret (v := aggP ⟨q0, q1, q2, q3, q4, .slice qa pn qcap⟩) (by simp only at s0 s1 s2 s3 s4 s5; simp [results, Tryz.results66, go_sem, s0, s1, s2, s3, s4, s5]) rfl ?_
     rw [HO.out]
     exact hok
    case neg =>
     have e1 : ((n : Int) == 1) = false := beq_false_of_ne (by omega)
     have hj : joinP 3 ps = .mk 3 0 0 0 0 ps := by
      match ps, HN.out, h1 with
      | [p], h2, h3 => simp only [List.length_cons, List.length_nil] at h2; omega
      | [], _, _ => rfl
      | p :: q :: t, _, _ => rfl
     rw [hj] at HO
     have HQ := Lib.hid ((HW.out.node2 (fun x hx => HG.out.2.1 x hx) 3 0 0 0 0).mono (M := fun b => w.heap.size < b) (fun x h _ => h.1))
     clear h1 hj HNL HW HN
     go_wp2_with fail
     generalize hW : World.setCell _ _ _ = w9
     obtain ⟨hbx, hok⟩ := HA.out.fin (d := ⟨3, 0, 0, 0, 0, .slice A n cap⟩) HQ.out hW
     obtain ⟨s0, s1, s2, s3, s4, s5⟩ := hbx.cells
     refine bodyPost_ret (v := aggP ⟨3, 0, 0, 0, 0, .slice A n cap⟩) (by simp only at s0 s1 s2 s3 s4 s5; simp [results, Tryz.results66, go_sem, s0, s1, s2, s3, s4, s5]) rfl ?_
     rw [HO.out]
     exact hok
end Go.Proofs.YtpkecepelcppiaaGreatDoor
