/- regex.ends walked at and, not; printed by gen_rwy.py. Conditions: strings of at most 10^6 bytes. -/
import Derived.Test.YtpkecepelcppiaaGreatDoorZd18
import Derived.Test.YtpkecepelcppiaaGreatDoorZd30
import Derived.Test.YtpkecepelcppiaaGreatDoorZd3
import Derived.Deep.QuietTactic
import Derived.BigQuiet
namespace Go.Proofs.YtpkecepelcppiaaGreatDoor
open Go.RowKit Go.Shelf
set_option maxHeartbeats 4000000
set_option maxRecDepth 100000

def EndP (N : Nat → Prop) (l : List Nat) (w : World) (e : Ending) (w' : World) : Prop := ∃ v, e = .returned v ∧ RdN (fun g => N g ∨ w.heap.size ≤ g) w' v l ∧ Below w.heap.size w w'
def EndsC (s : ByteArray) (d : Nat) : Prop := ∀ (N : Nat → Prop) (p : RX) (c : PC) (v : Value) (fr : List Nat) (w : World), RdP w c p → sndR d p = true → RdN N w v fr → fr.Nodup → (∀ x ∈ fr, x ≤ s.size) →
  Calls Tryz.prog 57 #[aggP c, .string s, v] w (EndP N (endsL (L s) d p fr) w)
theorem ends_op1 (s : ByteArray) (d : Nat) (hs : s.size ≤ 1000000) (N : Nat → Prop) (lo hi mn mx : Int) (l : List RX) (c : PC) (v : Value) (fr : List Nat) (w : World) (hp : RdP w c (.mk 1 lo hi mn mx l)) (hsn : sndR (d + 1) (.mk 1 lo hi mn mx l) = true)
  (hv : RdN N w v fr) (hnd : fr.Nodup) (hb : ∀ x ∈ fr, x ≤ s.size) (hne : 0 < fr.length) :
  Calls Tryz.prog 57 #[aggP c, .string s, v] w (EndP N (endsL (L s) (d + 1) (.mk 1 lo hi mn mx l) fr) w) := by
 have HSN := Lib.hid hsn
 have HP := Lib.hid hp
 have HV := Lib.hid hv
 have HND := Lib.hid hnd
 have HB := Lib.hid hb
 have hfr : fr ≠ [] := by intro h; rw [h] at hne; exact absurd hne (Nat.lt_irrefl _)
 obtain ⟨fa, fcap, hfv, f1, f2, -⟩ := hv.form
 obtain ⟨la, lcap, hla⟩ := hp.forms
 have hm1 : (fr.length : Int) ≤ 9223372036854775807 := by simp only [maxLen] at f2; omega
 have hm0 : ((fr.length : Int) == 0) = false := beq_false_of_ne (by omega)
 have hop : c.op = 1 ∧ c.lo = lo ∧ c.hi = hi ∧ c.mn = mn ∧ c.mx = mx := by cases hp; exact ⟨rfl, rfl, rfl, rfl, rfl⟩
 have HFR := Lib.hid hfr
 have hs0 := hs
 obtain ⟨c0, c1, c2, c3, c4, c5⟩ := c
 simp only at hop hla
 obtain ⟨rfl, rfl, rfl, rfl, rfl⟩ := hop
 rw [show (RX.mk 1 c1 c2 c3 c4 l).args = l from rfl] at hla
 subst hla
 obtain ⟨fn, hfn⟩ : ∃ fn, fn = fr.length := ⟨_, rfl⟩
 rw [← hfn] at hfv hm1 hm0 hne
 subst hfv
 have HFN := Lib.hid hfn
 simp only [aggP]
 clear hp hsn hv hnd hb hfr f1 f2 hfn
 go_enter Tryz.func57, Tryz.ntmps57
 go_upto_region 1 with fail
 generalize hW : World.alloc w _ = w1
 obtain ⟨ha, -, hz1, hb1⟩ := alloc_of hW
 have HBX := Lib.hid (show BoxP w.heap.size ⟨1, c1, c2, c3, c4, .slice la l.length lcap⟩ w1 from ha)
 have HW1 := Lib.hid hb1
 clear hW ha hb1
 go_wp2_with fail
 refine (newPlaces_any s w1 (by omega)).mono ?_
 rintro e w2 ⟨b, m, rfl, hpl, hb2⟩
 have HPL := Lib.hid hpl
 replace HBX := Lib.hid (HBX.out.below hb2)
 have HW2 := Lib.hid (HW1.out.trans (hb2.mono HW1.out.size))
 have HPB : Hid (w.heap.size + 1 ≤ b ∧ w.heap.size + 1 ≤ m) := ⟨by have := hpl.ne.2.2.2.1; omega, by have := hpl.ne.2.2.2.2; omega⟩
 obtain ⟨t0, t1, t2, t3, t4, t5⟩ := HBX.out.cells
 simp only at t0 t1 t2 t3 t4 t5
 clear hpl hb2
 have HQ := Lib.hid (show endsL (L s) (d + 1) (.mk 1 c1 c2 c3 c4 l) fr = fr from by simp [endsL, HFR.out])
 go_wp2_with fail
 go_ret
 rw [HQ.out]
 exact ⟨_, rfl, (HV.out.stay HW2.out).mono (fun g h _ => .inl h), HW2.out⟩
theorem ends_op0 (s : ByteArray) (d : Nat) (hs : s.size ≤ 1000000) (N : Nat → Prop) (lo hi mn mx : Int) (l : List RX) (c : PC) (v : Value) (fr : List Nat) (w : World) (hp : RdP w c (.mk 0 lo hi mn mx l)) (hsn : sndR (d + 1) (.mk 0 lo hi mn mx l) = true)
  (hv : RdN N w v fr) (hnd : fr.Nodup) (hb : ∀ x ∈ fr, x ≤ s.size) (hne : 0 < fr.length) :
  Calls Tryz.prog 57 #[aggP c, .string s, v] w (EndP N (endsL (L s) (d + 1) (.mk 0 lo hi mn mx l) fr) w) := by
 have HSN := Lib.hid hsn
 have HP := Lib.hid hp
 have HV := Lib.hid hv
 have HND := Lib.hid hnd
 have HB := Lib.hid hb
 have hfr : fr ≠ [] := by intro h; rw [h] at hne; exact absurd hne (Nat.lt_irrefl _)
 obtain ⟨fa, fcap, hfv, f1, f2, -⟩ := hv.form
 obtain ⟨la, lcap, hla⟩ := hp.forms
 have hm1 : (fr.length : Int) ≤ 9223372036854775807 := by simp only [maxLen] at f2; omega
 have hm0 : ((fr.length : Int) == 0) = false := beq_false_of_ne (by omega)
 have hop : c.op = 0 ∧ c.lo = lo ∧ c.hi = hi ∧ c.mn = mn ∧ c.mx = mx := by cases hp; exact ⟨rfl, rfl, rfl, rfl, rfl⟩
 have HFR := Lib.hid hfr
 have hs0 := hs
 obtain ⟨c0, c1, c2, c3, c4, c5⟩ := c
 simp only at hop hla
 obtain ⟨rfl, rfl, rfl, rfl, rfl⟩ := hop
 rw [show (RX.mk 0 c1 c2 c3 c4 l).args = l from rfl] at hla
 subst hla
 obtain ⟨fn, hfn⟩ : ∃ fn, fn = fr.length := ⟨_, rfl⟩
 rw [← hfn] at hfv hm1 hm0 hne
 subst hfv
 have HFN := Lib.hid hfn
 simp only [aggP]
 clear hp hsn hv hnd hb hfr f1 f2 hfn
 go_enter Tryz.func57, Tryz.ntmps57
 go_upto_region 1 with fail
 generalize hW : World.alloc w _ = w1
 obtain ⟨ha, -, hz1, hb1⟩ := alloc_of hW
 have HBX := Lib.hid (show BoxP w.heap.size ⟨0, c1, c2, c3, c4, .slice la l.length lcap⟩ w1 from ha)
 have HW1 := Lib.hid hb1
 clear hW ha hb1
 go_wp2_with fail
 refine (newPlaces_any s w1 (by omega)).mono ?_
 rintro e w2 ⟨b, m, rfl, hpl, hb2⟩
 have HPL := Lib.hid hpl
 replace HBX := Lib.hid (HBX.out.below hb2)
 have HW2 := Lib.hid (HW1.out.trans (hb2.mono HW1.out.size))
 have HPB : Hid (w.heap.size + 1 ≤ b ∧ w.heap.size + 1 ≤ m) := ⟨by have := hpl.ne.2.2.2.1; omega, by have := hpl.ne.2.2.2.2; omega⟩
 obtain ⟨t0, t1, t2, t3, t4, t5⟩ := HBX.out.cells
 simp only at t0 t1 t2 t3 t4 t5
 clear hpl hb2
 have HQ := Lib.hid (show endsL (L s) (d + 1) (.mk 0 c1 c2 c3 c4 l) fr = [] from by simp [endsL])
 obtain ⟨p0, p1⟩ := HPL.out.cells
 go_wp2_with fail
 go_ret
 rw [HQ.out]
 exact ⟨_, rfl, RdN.nil _ _, HW2.out⟩
theorem ends_nil (s : ByteArray) (d : Nat) (N : Nat → Prop) (p : RX) (c : PC) (v : Value) (w : World) (hp : RdP w c p) (hv : RdN N w v []) : Calls Tryz.prog 57 #[aggP c, .string s, v] w (EndP N (endsL (L s) (d + 1) p []) w) := by
 obtain ⟨fa, fcap, hfv, f1, f2, -⟩ := hv.form
 obtain ⟨la, lcap, hla⟩ := hp.forms
 have HQ := Lib.hid (show endsL (L s) (d + 1) p [] = [] from by cases p; simp [endsL])
 obtain ⟨c0, c1, c2, c3, c4, c5⟩ := c
 simp only at hla
 generalize p.args.length = n at *
 subst hla
 rw [show ([] : List Nat).length = 0 from rfl] at hfv
 subst hfv
 simp only [aggP]
 clear hp hv f1 f2
 go_enter Tryz.func57, Tryz.ntmps57
 go_wp2_with fail
 go_ret
 rw [HQ.out]
 exact ⟨_, rfl, RdN.nil _ _, (Below.refl _ _).alloc (Nat.le_refl _) _⟩
theorem one_rdN {N : Nat → Prop} {w : World} {k x : Nat} (h : w.heap[k]? = some (.cells #[.int .i64 (x : Int)] 3 (0, 0))) (hN : N k) : RdN N w (.slice (some ⟨k, 0, none⟩) 1 1) [x] := by
 refine ⟨⟨some ⟨k, 0, none⟩, 1, rfl, Nat.le_refl _, by decide, (fun h => by cases h), fun _ => ⟨k, 0, rfl, (Array.getElem?_eq_some_iff.1 h).1, fun i hi j hj => ?_⟩⟩, fun g o n cap hv _ => by cases hv; exact hN⟩
 obtain rfl : i = 0 := by simp at hi; omega
 obtain rfl : j = 0 := by omega
 exact cell_of_row w k 0 _ _ (0, 0) h
theorem Pl.endP {N : Nat → Prop} {B b n m : Nat} {lv : Value} {l : List Nat} {w0 w : World} (h : Pl B b n m lv l w) (hB : w0.heap.size ≤ B) (hb : Below w0.heap.size w0 w) : EndP N l w0 (.returned lv) w :=
 ⟨lv, rfl, (own_rdN h.own).mono (fun g hg _ => .inr (Nat.le_trans hB (h.own.lt g hg).1)), hb⟩
theorem below_add {B : Nat} {w0 w w' : World} (h : Below w0.heap.size w0 w) (hb : Below B w w') (hB : w0.heap.size ≤ B) : Below w0.heap.size w0 w' := h.trans (hb.mono hB)
theorem RdN.at {N : Nat → Prop} {w w' : World} {a : Option Addr} {fn cap : Nat} {l : List Nat} (h : RdN N w (.slice a fn cap) l) (hb : Below w.heap.size w w') (k : Nat) (hk : k < l.length) : ∃ g o, a = some ⟨g, o, none⟩ ∧ w'.cell? ⟨g, o + k, none⟩ = some (.int .i64 (l[k] : Nat)) := by
 obtain ⟨a', cap', he, _, _, h3⟩ := h.form
 cases he
 obtain ⟨g, o, rfl, _, hc⟩ := h3 (by omega)
 refine ⟨g, o, rfl, ?_⟩
 have h0 := hc k hk
 rw [hb.cell (p := ⟨g, o + k, none⟩) (by
  show g < _
  rcases Nat.lt_or_ge g w.heap.size with h | h
  ·exact h
  ·simp [World.cell?, Array.getElem?_eq_none h] at h0)]
 exact h0
theorem ends_op2 (s : ByteArray) (d : Nat) (hs : s.size ≤ 1000000) (N : Nat → Prop) (lo hi mn mx : Int) (l : List RX) (c : PC) (v : Value) (fr : List Nat) (w : World) (hp : RdP w c (.mk 2 lo hi mn mx l)) (hsn : sndR (d + 1) (.mk 2 lo hi mn mx l) = true)
  (hv : RdN N w v fr) (hnd : fr.Nodup) (hb : ∀ x ∈ fr, x ≤ s.size) (hne : 0 < fr.length) :
  Calls Tryz.prog 57 #[aggP c, .string s, v] w (EndP N (endsL (L s) (d + 1) (.mk 2 lo hi mn mx l) fr) w) := by
 have HSN := Lib.hid hsn
 have HP := Lib.hid hp
 have HV := Lib.hid hv
 have HND := Lib.hid hnd
 have HB := Lib.hid hb
 have hfr : fr ≠ [] := by intro h; rw [h] at hne; exact absurd hne (Nat.lt_irrefl _)
 obtain ⟨fa, fcap, hfv, f1, f2, -⟩ := hv.form
 obtain ⟨la, lcap, hla⟩ := hp.forms
 have hm1 : (fr.length : Int) ≤ 9223372036854775807 := by simp only [maxLen] at f2; omega
 have hm0 : ((fr.length : Int) == 0) = false := beq_false_of_ne (by omega)
 have hop : c.op = 2 ∧ c.lo = lo ∧ c.hi = hi ∧ c.mn = mn ∧ c.mx = mx := by cases hp; exact ⟨rfl, rfl, rfl, rfl, rfl⟩
 have HFR := Lib.hid hfr
 have hs0 := hs
 obtain ⟨c0, c1, c2, c3, c4, c5⟩ := c
 simp only at hop hla
 obtain ⟨rfl, rfl, rfl, rfl, rfl⟩ := hop
 rw [show (RX.mk 2 c1 c2 c3 c4 l).args = l from rfl] at hla
 subst hla
 obtain ⟨fn, hfn⟩ : ∃ fn, fn = fr.length := ⟨_, rfl⟩
 rw [← hfn] at hfv hm1 hm0 hne
 subst hfv
 have HFN := Lib.hid hfn
 simp only [aggP]
 clear hp hsn hv hnd hb hfr f1 f2 hfn
 go_enter Tryz.func57, Tryz.ntmps57
 go_upto_region 1 with fail
 generalize hW : World.alloc w _ = w1
 obtain ⟨ha, -, hz1, hb1⟩ := alloc_of hW
 have HBX := Lib.hid (show BoxP w.heap.size ⟨2, c1, c2, c3, c4, .slice la l.length lcap⟩ w1 from ha)
 have HW1 := Lib.hid hb1
 clear hW ha hb1
 go_wp2_with fail
 refine (newPlaces_any s w1 (by omega)).mono ?_
 rintro e w2 ⟨b, m, rfl, hpl, hb2⟩
 have HPL := Lib.hid hpl
 replace HBX := Lib.hid (HBX.out.below hb2)
 have HW2 := Lib.hid (HW1.out.trans (hb2.mono HW1.out.size))
 have HPB : Hid (w.heap.size + 1 ≤ b ∧ w.heap.size + 1 ≤ m) := ⟨by have := hpl.ne.2.2.2.1; omega, by have := hpl.ne.2.2.2.2; omega⟩
 obtain ⟨t0, t1, t2, t3, t4, t5⟩ := HBX.out.cells
 simp only at t0 t1 t2 t3 t4 t5
 clear hpl hb2
 have HQ := Lib.hid (show endsL (L s) (d + 1) (.mk 2 c1 c2 c3 c4 l) fr = fr.foldl (fun o i => if rng1 (L s) c1 c2 i then add1 o (i + 1) else o) [] from by simp [endsL, HFR.out])
 have HZ := Lib.hid hz1
 clear hz1 t0 t1 t2 t3 t4 t5
 obtain ⟨t0, -, -, -, -, -⟩ := HBX.out.cells
 simp only at t0
 go_wp2_with fail
 go_loopw [9, 30] (fun _ iv wr => ∃ (k : Nat) (lv : Value), k ≤ fr.length ∧ iv = .int .i64 (k : Int) ∧ Hid (Pl w1.heap.size b (s.size + 1) m lv ((fr.take k).foldl (fun o i => if rng1 (L s) c1 c2 i then add1 o (i + 1) else o) []) wr) ∧ Hid (Below w.heap.size w wr) ∧ Hid (BoxP w.heap.size ⟨2, c1, c2, c3, c4, .slice la l.length lcap⟩ wr)) (fun _ iv _ => fr.length - (intOf iv).toNat)
 case atStart => exact ⟨0, .slice none 0 0, Nat.zero_le _, rfl, by rw [List.take_zero]; exact HPL.out, HW2.out, HBX.out⟩
 case round =>
  clear HPL HBX HW2 t0
  obtain ⟨k, lv, hk, rfl, HPL, HWR, HBX⟩ := hrel
  by_cases hlt : k < fr.length
  case neg =>
   have hge : ¬ (k : Int) < fn := by have := HFN.out; omega
   have HPQ : Hid (Pl w1.heap.size b (s.size + 1) m lv (fr.foldl (fun o i => if rng1 (L s) c1 c2 i then add1 o (i + 1) else o) []) wr) := by
    have := HPL.out
    rw [List.take_of_length_le (by have := HFN.out; omega)] at this
    exact this
   obtain ⟨p0, p1⟩ := HPQ.out.cells
   clear hlt
   go_wp2_with fail
   go_ret
   rw [HQ.out]
   exact HPQ.out.endP (by have := HZ.out; omega) HWR.out
  case pos =>
   have hlti : (k : Int) < fn := by have := HFN.out; omega
   obtain ⟨g, o, rfl, hck⟩ := HV.out.at HWR.out k hlt
   have hx : fr[k] ≤ s.size := HB.out _ (List.getElem_mem hlt)
   have HTK : Hid ((fr.take (k + 1)).foldl (fun o i => if rng1 (L s) c1 c2 i then add1 o (i + 1) else o) [] = if rng1 (L s) c1 c2 fr[k] then add1 ((fr.take k).foldl (fun o i => if rng1 (L s) c1 c2 i then add1 o (i + 1) else o) []) (fr[k] + 1) else ((fr.take k).foldl (fun o i => if rng1 (L s) c1 c2 i then add1 o (i + 1) else o) [])) := by
    unfold Hid
    rw [List.take_succ_eq_append_getElem hlt, List.foldl_append]
    rfl
   have HCUR : Hid (((fr.take k).foldl (fun o i => if rng1 (L s) c1 c2 i then add1 o (i + 1) else o) []).Nodup ∧ ∀ x ∈ ((fr.take k).foldl (fun o i => if rng1 (L s) c1 c2 i then add1 o (i + 1) else o) []), x < s.size + 1) := by
    obtain ⟨q1, q2⟩ := foldl_rng (L s) c1 c2 (fr.take k) [] (by simp)
    refine ⟨q1, fun x hx => ?_⟩
    rcases (q2 x).1 hx with h | ⟨j, -, rfl, hj⟩
    ·cases h
    ·have := rng1_lt hj
     rw [L_len] at this
     omega
   generalize (fr.take k).foldl (fun o i => if rng1 (L s) c1 c2 i then add1 o (i + 1) else o) [] = cur at *
   generalize fr[k] = i at *
   obtain ⟨t0, t1, t2, t3, t4, t5⟩ := HBX.out.cells
   simp only at t0 t1 t2 t3 t4 t5
   go_upto_region 11 with fail
   go_cut [55] (fun v wx => v = .bool (rng1 (L s) c1 c2 i) ∧ Hid (Pl w1.heap.size b (s.size + 1) m lv cur wx) ∧ Hid (Below w.heap.size w wx) ∧ Hid (BoxP w.heap.size ⟨2, c1, c2, c3, c4, .slice la l.length lcap⟩ wx))
   case first =>
    by_cases hi : i < s.size
    ·have e1 : decide ((i : Int) < s.size) = true := decide_eq_true (by omega)
     have e2 : (i : Int) < s.size := by omega
     have e3 : (0 : Int) ≤ (i : Int) := by omega
     have e4 : ((i : Int)).toNat = i := by omega
     have HR : Hid (rng1 (L s) c1 c2 i = decide (c1 ≤ ((s[i]'hi).toNat : Int) ∧ ((s[i]'hi).toNat : Int) ≤ c2)) := by
      unfold Hid rng1
      rw [List.getElem?_eq_getElem (by rw [L_len]; exact hi)]
      rfl
     have hwr : wrap64 (((s[i]'hi).toNat : Nat) : Int) = ((s[i]'hi).toNat : Int) := by
      have := (s[i]'hi).toNat_lt
      unfold wrap64
      omega
     have hwr2 : IntKind.i64.wrap (((s[i]'hi).toNat : Nat) : Int) = ((s[i]'hi).toNat : Int) := IntWalk.i64_in _ (by have := (s[i]'hi).toNat_lt; omega)
     by_cases h1 : c1 ≤ ((s[i]'hi).toNat : Int)
     ·by_cases h2 : ((s[i]'hi).toNat : Int) ≤ c2
      ·have d1 : decide (c1 ≤ ((s[i]'hi).toNat : Int)) = true := decide_eq_true h1
       have d2 : decide (((s[i]'hi).toNat : Int) ≤ c2) = true := decide_eq_true h2
       replace HR : Hid (rng1 (L s) c1 c2 i = true) := by unfold Hid; rw [HR.out]; exact decide_eq_true ⟨h1, h2⟩
       clear h1 h2
       go_quiet (fail)
       go_wp2_with fail
       go_meet
       exact ⟨by rw [HR.out], HPL.out.stay (below_drewN (Below.refl _ _) _), HWR.out.trans (below_drewN (Below.refl _ _) _), HBX.out.below (below_drewN (Below.refl _ _) _)⟩
      ·have d1 : decide (c1 ≤ ((s[i]'hi).toNat : Int)) = true := decide_eq_true h1
       have d2 : decide (((s[i]'hi).toNat : Int) ≤ c2) = false := decide_eq_false h2
       replace HR : Hid (rng1 (L s) c1 c2 i = false) := by unfold Hid; rw [HR.out]; exact decide_eq_false (fun h => h2 h.2)
       clear h1 h2
       go_quiet (fail)
       go_wp2_with fail
       go_meet
       exact ⟨by rw [HR.out], HPL.out.stay (below_drewN (Below.refl _ _) _), HWR.out.trans (below_drewN (Below.refl _ _) _), HBX.out.below (below_drewN (Below.refl _ _) _)⟩
     ·have d1 : decide (c1 ≤ ((s[i]'hi).toNat : Int)) = false := decide_eq_false h1
      replace HR : Hid (rng1 (L s) c1 c2 i = false) := by unfold Hid; rw [HR.out]; exact decide_eq_false (fun h => h1 h.1)
      clear h1
      go_quiet (fail)
      go_wp2_with fail
      go_meet
      exact ⟨by rw [HR.out], HPL.out.stay (below_drewN (Below.refl _ _) _), HWR.out.trans (below_drewN (Below.refl _ _) _), HBX.out.below (below_drewN (Below.refl _ _) _)⟩
    ·have e1 : decide ((i : Int) < s.size) = false := decide_eq_false (by omega)
     have HR : Hid (rng1 (L s) c1 c2 i = false) := by
      unfold Hid rng1
      rw [List.getElem?_eq_none (by rw [L_len]; omega)]
     go_quiet (fail)
     go_wp2_with fail
     go_meet
     exact ⟨by rw [HR.out], HPL.out.stay (below_drewN (Below.refl _ _) _), HWR.out.trans (below_drewN (Below.refl _ _) _), HBX.out.below (below_drewN (Below.refl _ _) _)⟩
   case rest =>
    obtain ⟨rfl, HP3, HW3, HB3⟩ := hcut
    clear HPL HWR HBX t0 t1 t2 t3 t4 t5 hck
    cases hr : rng1 (L s) c1 c2 i with
    | false =>
     rw [hr, if_neg (by simp)] at HTK
     clear hr
     go_wp2_with fail
     exact ⟨⟨k + 1, lv, by omega, rfl, by rw [HTK.out]; exact HP3.out, HW3.out, HB3.out⟩, by simp [intOf]; omega⟩
    | true =>
     have HI := Lib.hid (rng1_lt hr)
     rw [hr, if_pos rfl] at HTK
     clear hr
     have hi9 : i ≤ 1000000 := by omega
     go_wp2_with fail
     generalize hW : World.alloc wc _ = w5
     obtain ⟨ha, -, hz5, hb5⟩ := alloc_of hW
     have HP5 := Lib.hid (HP3.out.stay hb5)
     have HB5 := Lib.hid (HB3.out.below hb5)
     have HW5 := Lib.hid (HW3.out.trans (hb5.mono HW3.out.size))
     have HX5 := Lib.hid (one_rdN (x := i + 1) (N := fun x => ¬ PlB b m lv x) ha (fun he => by
      have h1 := HP3.out.lt
      rcases he with he | he | he
      ·omega
      ·omega
      ·have := (HP3.out.own.lt _ he).2
       omega))
     clear hW ha hz5 hb5 HP3 HW3 HB3
     refine (add_any w1.heap.size b (s.size + 1) m lv _ cur [i + 1] w5 HP5.out (by omega) HCUR.out.1 HCUR.out.2 HX5.out (fun x hx => by simp at hx; have := HI.out; rw [L_len] at this; omega)).mono ?_
     rintro e w6 ⟨rfl, lv6, hp6, hb6, hk6, hs6, -⟩
     have HP6 := Lib.hid (show Pl w1.heap.size b (s.size + 1) m lv6 (add1 cur (i + 1)) w6 from hp6)
     have HB6 := Lib.hid (show BoxP w.heap.size ⟨2, c1, c2, c3, c4, .slice la l.length lcap⟩ w6 from (hk6 _ (fun he => by
      have h1 := HPB.out
      rcases he with he | he | he
      ·omega
      ·omega
      ·have := (HP5.out.own.lt _ he).1
       have := HZ.out
       omega) HB5.out.lt).trans HB5.out)
     have HW6 := Lib.hid (below_add HW5.out hb6 (by have := HZ.out; omega))
     clear hp6 hb6 hk6 hs6
     go_wp2_with fail
     exact ⟨⟨k + 1, lv6, by omega, rfl, by rw [HTK.out]; exact HP6.out, HW6.out, HB6.out⟩, by simp [intOf]; omega⟩
end Go.Proofs.YtpkecepelcppiaaGreatDoor

namespace Go.Proofs.YtpkecepelcppiaaGreatDoor
open Go.RowKit Go.Shelf
set_option maxHeartbeats 4000000
set_option maxRecDepth 100000

theorem cat_nod (s : ByteArray) (d : Nat) : ∀ (l : List RX) (fr : List Nat), (∀ q ∈ l, sndR d q = true) → fr.Nodup → (∀ x ∈ fr, x ≤ s.size) → (l.foldl (fun f a => endsL (L s) d a f) fr).Nodup ∧ ∀ x ∈ l.foldl (fun f a => endsL (L s) d a f) fr, x ≤ s.size
 | [], fr, _, h1, h2 => ⟨h1, h2⟩
 | a :: t, fr, h, h1, h2 => by
  have hf := ends_finds (L s) d a (h a (by simp))
  rw [L_len] at hf
  exact cat_nod s d t _ (fun q hq => h q (by simp [hq])) (hf.nod fr h1 h2) (hf.bd h1 h2)
theorem ends_bd (s : ByteArray) (d : Nat) (a : RX) (fr : List Nat) (h : sndR d a = true) (h1 : fr.Nodup) (h2 : ∀ x ∈ fr, x ≤ s.size) : (endsL (L s) d a fr).Nodup ∧ ∀ x ∈ endsL (L s) d a fr, x ≤ s.size := by
 have hf := ends_finds (L s) d a h
 rw [L_len] at hf
 exact ⟨hf.nod fr h1 h2, hf.bd h1 h2⟩
theorem RdP.part {w w' : World} {op lo hi mn mx : Int} {l : List RX} {a : Option Addr} {n cap : Nat} (h : RdP w ⟨op, lo, hi, mn, mx, .slice a n cap⟩ (.mk op lo hi mn mx l)) (hb : Below w.heap.size w w') (k : Nat) (hk : k < l.length) :
  ∃ g o c, a = some ⟨g, o, none⟩ ∧ (∀ j, j < 6 → w'.cell? ⟨g, o + k * 6 + j, none⟩ = (PC.cells c)[j]?) ∧ RdP w' c l[k] := by
 have hs := h.stays hb
 cases h with
 | mk _ _ _ _ _ _ _ cs hl hL =>
 obtain ⟨a', cap', he, h1, h2, h0, h3⟩ := hl
 cases he
 obtain ⟨g, o, rfl, hg, hc⟩ := h3 (by omega)
 exact ⟨g, o, cs k, rfl, fun j hj => (hb.cell (p := ⟨g, o + k * 6 + j, none⟩) hg).trans (hc k hk j hj), (hL k hk).stays hb⟩
theorem ends_op3 (s : ByteArray) (d : Nat) (hs : s.size ≤ 1000000) (IH : EndsC s d) (N : Nat → Prop) (lo hi mn mx : Int) (l : List RX) (c : PC) (v : Value) (fr : List Nat) (w : World) (hp : RdP w c (.mk 3 lo hi mn mx l)) (hsn : sndR (d + 1) (.mk 3 lo hi mn mx l) = true)
  (hv : RdN N w v fr) (hnd : fr.Nodup) (hb : ∀ x ∈ fr, x ≤ s.size) (hne : 0 < fr.length) :
  Calls Tryz.prog 57 #[aggP c, .string s, v] w (EndP N (endsL (L s) (d + 1) (.mk 3 lo hi mn mx l) fr) w) := by
 have HSN := Lib.hid hsn
 have HP := Lib.hid hp
 have HV := Lib.hid hv
 have HND := Lib.hid hnd
 have HB := Lib.hid hb
 have hfr : fr ≠ [] := by intro h; rw [h] at hne; exact absurd hne (Nat.lt_irrefl _)
 obtain ⟨fa, fcap, hfv, f1, f2, -⟩ := hv.form
 obtain ⟨la, lcap, hla⟩ := hp.forms
 have hm1 : (fr.length : Int) ≤ 9223372036854775807 := by simp only [maxLen] at f2; omega
 have hm0 : ((fr.length : Int) == 0) = false := beq_false_of_ne (by omega)
 have hop : c.op = 3 ∧ c.lo = lo ∧ c.hi = hi ∧ c.mn = mn ∧ c.mx = mx := by cases hp; exact ⟨rfl, rfl, rfl, rfl, rfl⟩
 have HFR := Lib.hid hfr
 have hs0 := hs
 obtain ⟨c0, c1, c2, c3, c4, c5⟩ := c
 simp only at hop hla
 obtain ⟨rfl, rfl, rfl, rfl, rfl⟩ := hop
 rw [show (RX.mk 3 c1 c2 c3 c4 l).args = l from rfl] at hla
 subst hla
 obtain ⟨fn, hfn⟩ : ∃ fn, fn = fr.length := ⟨_, rfl⟩
 rw [← hfn] at hfv hm1 hm0 hne
 subst hfv
 have HFN := Lib.hid hfn
 simp only [aggP]
 clear hp hsn hv hnd hb hfr f1 f2 hfn
 go_enter Tryz.func57, Tryz.ntmps57
 go_upto_region 1 with fail
 generalize hW : World.alloc w _ = w1
 obtain ⟨ha, -, hz1, hb1⟩ := alloc_of hW
 have HBX := Lib.hid (show BoxP w.heap.size ⟨3, c1, c2, c3, c4, .slice la l.length lcap⟩ w1 from ha)
 have HW1 := Lib.hid hb1
 clear hW ha hb1
 go_wp2_with fail
 refine (newPlaces_any s w1 (by omega)).mono ?_
 rintro e w2 ⟨b, m, rfl, hpl, hb2⟩
 have HPL := Lib.hid hpl
 replace HBX := Lib.hid (HBX.out.below hb2)
 have HW2 := Lib.hid (HW1.out.trans (hb2.mono HW1.out.size))
 have HPB : Hid (w.heap.size + 1 ≤ b ∧ w.heap.size + 1 ≤ m) := ⟨by have := hpl.ne.2.2.2.1; omega, by have := hpl.ne.2.2.2.2; omega⟩
 obtain ⟨t0, t1, t2, t3, t4, t5⟩ := HBX.out.cells
 simp only at t0 t1 t2 t3 t4 t5
 clear hpl hb2
 have HQ := Lib.hid (show endsL (L s) (d + 1) (.mk 3 c1 c2 c3 c4 l) fr = l.foldl (fun f a => endsL (L s) d a f) fr from by simp [endsL, HFR.out])
 have HKS := Lib.hid (snd_node HSN.out).2
 have HIH := Lib.hid IH
 have hll : (l.length : Int) ≤ 9223372036854775807 := by
  have h := HP.out
  cases h with
  | mk _ _ _ _ _ _ _ _ hl _ =>
  obtain ⟨_, _, he, h1, h2, -⟩ := hl
  cases he
  simp only [maxLen] at h2
  omega
 clear hz1 t0 t1 t2 t3 t4 t5 IH hne hm0
 obtain ⟨t0, -, -, -, -, t5⟩ := HBX.out.cells
 simp only at t0 t5
 go_wp2_with fail
 go_loopw [2, 11, 67] (fun fv _ iv wr => ∃ (k : Nat) (a : Option Addr) (fl cap : Nat), k ≤ l.length ∧ iv = .int .i64 (k : Int) ∧ fv = .slice a fl cap ∧ Hid (RdN (fun g => N g ∨ w.heap.size ≤ g) wr (.slice a fl cap) ((l.take k).foldl (fun f a => endsL (L s) d a f) fr)) ∧ Hid (Below w.heap.size w wr)) (fun _ _ iv _ => l.length - (intOf iv).toNat)
 case atStart => exact ⟨0, fa, fn, fcap, Nat.zero_le _, rfl, rfl, by rw [List.take_zero]; exact (HV.out.stay HW2.out).mono (fun g h _ => .inl h), HW2.out⟩
 case round =>
  clear HPL HBX HW2 t0 t5 hm1
  obtain ⟨k, ra, fl, rcap, hk, rfl, rfl, HRF, HWR⟩ := hrel
  by_cases hlt : k < l.length
  case neg =>
   have hge : ¬ (k : Int) < l.length := by omega
   have HRQ : Hid (RdN (fun g => N g ∨ w.heap.size ≤ g) wr (.slice ra fl rcap) (l.foldl (fun f a => endsL (L s) d a f) fr)) := by
    have := HRF.out
    rw [List.take_of_length_le (by omega)] at this
    exact this
   clear hlt
   go_wp2_with fail
   go_ret
   rw [HQ.out]
   exact ⟨_, rfl, HRQ.out, HWR.out⟩
  case pos =>
   have hlti : (k : Int) < l.length := by omega
   obtain ⟨g, o, c, rfl, hc6, hrd⟩ := HP.out.part HWR.out k hlt
   have HTK : Hid ((l.take (k + 1)).foldl (fun f a => endsL (L s) d a f) fr = endsL (L s) d l[k] ((l.take k).foldl (fun f a => endsL (L s) d a f) fr)) := by
    unfold Hid
    rw [List.take_succ_eq_append_getElem hlt, List.foldl_append]
    rfl
   have HND2 := Lib.hid (cat_nod s d (l.take k) fr (fun q hq => HKS.out q (List.mem_of_mem_take hq)) HND.out HB.out)
   have HSQ := Lib.hid (HKS.out _ (List.getElem_mem hlt))
   have HRD := Lib.hid hrd
   generalize (l.take k).foldl (fun f a => endsL (L s) d a f) fr = cur at *
   generalize l[k] = q at *
   obtain ⟨pa, pcap, hpa⟩ := hrd.forms
   generalize q.args.length = pn at *
   obtain ⟨p0, p1, p2, p3, p4, p5⟩ := c
   simp only at hpa
   subst hpa
   obtain ⟨b0, b1, b2, b3, b4, b5⟩ := cells6 hc6
   simp only at b0 b1 b2 b3 b4 b5
   clear hc6 hrd
   go_upto_region 18 with fail
   generalize hW : World.alloc wr _ = w5
   obtain ⟨ha, -, -, hb5⟩ := alloc_of hW
   have HB5 := Lib.hid (show BoxP wr.heap.size ⟨p0, p1, p2, p3, p4, .slice pa pn pcap⟩ w5 from ha)
   have HC := Lib.hid (HIH.out _ q ⟨p0, p1, p2, p3, p4, .slice pa pn pcap⟩ (.slice ra fl rcap) cur w5 (HRD.out.stays hb5) HSQ.out (HRF.out.stay hb5) HND2.out.1 HND2.out.2)
   have HW5 := Lib.hid (HWR.out.trans (hb5.mono HWR.out.size))
   clear hW ha hb5 b0 b1 b2 b3 b4 b5
   obtain ⟨b0, b1, b2, b3, b4, b5⟩ := HB5.out.cells
   simp only at b0 b1 b2 b3 b4 b5
   go_wp2_with fail
   refine HC.out.mono ?_
   rintro e w6 ⟨v6, rfl, hv6, hb6⟩
   obtain ⟨a6, cap6, rfl, -⟩ := hv6.form
   have HV6 := Lib.hid (hv6.mono (M := fun g => N g ∨ w.heap.size ≤ g) (fun x h _ => by
    rcases h with h | h
    ·exact h
    ·exact .inr (Nat.le_trans HW5.out.size h)))
   have HW6 := Lib.hid (HW5.out.trans (hb6.mono HW5.out.size))
   clear hv6 hb6 HC b0 b1 b2 b3 b4 b5
   go_wp2_with fail
   exact ⟨⟨k + 1, a6, _, cap6, by omega, rfl, rfl, by rw [HTK.out]; exact HV6.out, HW6.out⟩, by simp [intOf]; omega⟩
theorem ends_op4 (s : ByteArray) (d : Nat) (hs : s.size ≤ 1000000) (IH : EndsC s d) (N : Nat → Prop) (lo hi mn mx : Int) (l : List RX) (c : PC) (v : Value) (fr : List Nat) (w : World) (hp : RdP w c (.mk 4 lo hi mn mx l)) (hsn : sndR (d + 1) (.mk 4 lo hi mn mx l) = true)
  (hv : RdN N w v fr) (hnd : fr.Nodup) (hb : ∀ x ∈ fr, x ≤ s.size) (hne : 0 < fr.length) :
  Calls Tryz.prog 57 #[aggP c, .string s, v] w (EndP N (endsL (L s) (d + 1) (.mk 4 lo hi mn mx l) fr) w) := by
 have HSN := Lib.hid hsn
 have HP := Lib.hid hp
 have HV := Lib.hid hv
 have HND := Lib.hid hnd
 have HB := Lib.hid hb
 have hfr : fr ≠ [] := by intro h; rw [h] at hne; exact absurd hne (Nat.lt_irrefl _)
 obtain ⟨fa, fcap, hfv, f1, f2, -⟩ := hv.form
 obtain ⟨la, lcap, hla⟩ := hp.forms
 have hm1 : (fr.length : Int) ≤ 9223372036854775807 := by simp only [maxLen] at f2; omega
 have hm0 : ((fr.length : Int) == 0) = false := beq_false_of_ne (by omega)
 have hop : c.op = 4 ∧ c.lo = lo ∧ c.hi = hi ∧ c.mn = mn ∧ c.mx = mx := by cases hp; exact ⟨rfl, rfl, rfl, rfl, rfl⟩
 have HFR := Lib.hid hfr
 have hs0 := hs
 obtain ⟨c0, c1, c2, c3, c4, c5⟩ := c
 simp only at hop hla
 obtain ⟨rfl, rfl, rfl, rfl, rfl⟩ := hop
 rw [show (RX.mk 4 c1 c2 c3 c4 l).args = l from rfl] at hla
 subst hla
 obtain ⟨fn, hfn⟩ : ∃ fn, fn = fr.length := ⟨_, rfl⟩
 rw [← hfn] at hfv hm1 hm0 hne
 subst hfv
 have HFN := Lib.hid hfn
 simp only [aggP]
 clear hp hsn hv hnd hb hfr f1 f2 hfn
 go_enter Tryz.func57, Tryz.ntmps57
 go_upto_region 1 with fail
 generalize hW : World.alloc w _ = w1
 obtain ⟨ha, -, hz1, hb1⟩ := alloc_of hW
 have HBX := Lib.hid (show BoxP w.heap.size ⟨4, c1, c2, c3, c4, .slice la l.length lcap⟩ w1 from ha)
 have HW1 := Lib.hid hb1
 clear hW ha hb1
 go_wp2_with fail
 refine (newPlaces_any s w1 (by omega)).mono ?_
 rintro e w2 ⟨b, m, rfl, hpl, hb2⟩
 have HPL := Lib.hid hpl
 replace HBX := Lib.hid (HBX.out.below hb2)
 have HW2 := Lib.hid (HW1.out.trans (hb2.mono HW1.out.size))
 have HPB : Hid (w.heap.size + 1 ≤ b ∧ w.heap.size + 1 ≤ m) := ⟨by have := hpl.ne.2.2.2.1; omega, by have := hpl.ne.2.2.2.2; omega⟩
 obtain ⟨t0, t1, t2, t3, t4, t5⟩ := HBX.out.cells
 simp only at t0 t1 t2 t3 t4 t5
 clear hpl hb2
 have HQ := Lib.hid (show endsL (L s) (d + 1) (.mk 4 c1 c2 c3 c4 l) fr = l.foldl (fun o a => addL o (endsL (L s) d a fr)) [] from by simp [endsL, HFR.out])
 have HKS := Lib.hid (snd_node HSN.out).2
 have HIH := Lib.hid IH
 have HZ := Lib.hid hz1
 have hll : (l.length : Int) ≤ 9223372036854775807 := by
  have h := HP.out
  cases h with
  | mk _ _ _ _ _ _ _ _ hl _ =>
  obtain ⟨_, _, he, h1, h2, -⟩ := hl
  cases he
  simp only [maxLen] at h2
  omega
 clear hz1 t0 t1 t2 t3 t4 t5 IH hne hm0
 obtain ⟨t0, -, -, -, -, t5⟩ := HBX.out.cells
 simp only at t0 t5
 go_wp2_with fail
 go_loopw [13, 82] (fun _ iv wr => ∃ (k : Nat) (lv : Value), k ≤ l.length ∧ iv = .int .i64 (k : Int) ∧ Hid (Pl w1.heap.size b (s.size + 1) m lv ((l.take k).foldl (fun o a => addL o (endsL (L s) d a fr)) []) wr) ∧ Hid (Below w.heap.size w wr)) (fun _ iv _ => l.length - (intOf iv).toNat)
 case atStart => exact ⟨0, _, Nat.zero_le _, rfl, by rw [List.take_zero]; exact HPL.out, HW2.out⟩
 case round =>
  clear HPL HBX HW2 t0 t5 hm1
  obtain ⟨k, lv, hk, rfl, HPL, HWR⟩ := hrel
  by_cases hlt : k < l.length
  case neg =>
   have hge : ¬ (k : Int) < l.length := by omega
   have HPQ : Hid (Pl w1.heap.size b (s.size + 1) m lv (l.foldl (fun o a => addL o (endsL (L s) d a fr)) []) wr) := by
    have := HPL.out
    rw [List.take_of_length_le (by omega)] at this
    exact this
   obtain ⟨p0, p1⟩ := HPQ.out.cells
   clear hlt
   go_wp2_with fail
   go_ret
   rw [HQ.out]
   exact HPQ.out.endP (by have := HZ.out; omega) HWR.out
  case pos =>
   have hlti : (k : Int) < l.length := by omega
   obtain ⟨g, o, c, rfl, hc6, hrd⟩ := HP.out.part HWR.out k hlt
   have HTK : Hid ((l.take (k + 1)).foldl (fun o a => addL o (endsL (L s) d a fr)) [] = addL ((l.take k).foldl (fun o a => addL o (endsL (L s) d a fr)) []) (endsL (L s) d l[k] fr)) := by
    unfold Hid
    rw [List.take_succ_eq_append_getElem hlt, List.foldl_append]
    rfl
   have HCUR : Hid (((l.take k).foldl (fun o a => addL o (endsL (L s) d a fr)) []).Nodup ∧ ∀ x ∈ ((l.take k).foldl (fun o a => addL o (endsL (L s) d a fr)) []), x < s.size + 1) := by
    refine ⟨foldl_addL_nodup _ _ _ (by simp), fun x hx => ?_⟩
    rcases (foldl_addA (fun a => endsL (L s) d a fr) _ _ _).1 hx with h | ⟨a, ha, h⟩
    ·cases h
    ·have := (ends_bd s d a fr (HKS.out a (List.mem_of_mem_take ha)) HND.out HB.out).2 x h
     omega
   have HSQ := Lib.hid (HKS.out _ (List.getElem_mem hlt))
   have HEB := Lib.hid (ends_bd s d l[k] fr (HKS.out _ (List.getElem_mem hlt)) HND.out HB.out)
   have HRD := Lib.hid hrd
   generalize (l.take k).foldl (fun o a => addL o (endsL (L s) d a fr)) [] = cur at *
   generalize l[k] = q at *
   obtain ⟨pa, pcap, hpa⟩ := hrd.forms
   generalize q.args.length = pn at *
   obtain ⟨p0, p1, p2, p3, p4, p5⟩ := c
   simp only at hpa
   subst hpa
   obtain ⟨b0, b1, b2, b3, b4, b5⟩ := cells6 hc6
   simp only at b0 b1 b2 b3 b4 b5
   clear hc6 hrd
   go_upto_region 25 with fail
   generalize hW : World.alloc wr _ = w5
   obtain ⟨ha, -, -, hb5⟩ := alloc_of hW
   have HB5 := Lib.hid (show BoxP wr.heap.size ⟨p0, p1, p2, p3, p4, .slice pa pn pcap⟩ w5 from ha)
   have HW5 := Lib.hid (HWR.out.trans (hb5.mono HWR.out.size))
   have HPL5 := Lib.hid (HPL.out.stay hb5)
   have HC := Lib.hid (HIH.out _ q ⟨p0, p1, p2, p3, p4, .slice pa pn pcap⟩ (.slice fa fn fcap) fr w5 (HRD.out.stays hb5) HSQ.out ((HV.out.mono (M := fun g => g < w.heap.size) (fun x _ hl => hl)).stay HW5.out) HND.out HB.out)
   clear hW ha hb5 b0 b1 b2 b3 b4 b5
   obtain ⟨b0, b1, b2, b3, b4, b5⟩ := HB5.out.cells
   simp only at b0 b1 b2 b3 b4 b5
   go_wp2_with fail
   refine HC.out.mono ?_
   rintro e w6 ⟨v6, rfl, hv6, hb6⟩
   obtain ⟨a6, cap6, rfl, -⟩ := hv6.form
   have HV6 := Lib.hid (hv6.mono (M := fun x => ¬ PlB b m lv x) (fun x h hl he => by
    have h1 := HPL5.out.lt
    have h2 := HPB.out
    rcases he with he | he | he
    ·omega
    ·omega
    ·have := HPL5.out.own.lt _ he
     have := HZ.out
     omega))
   have HP6 := Lib.hid (HPL5.out.stay hb6)
   have HW6 := Lib.hid (HW5.out.trans (hb6.mono HW5.out.size))
   clear hv6 hb6 HC b0 b1 b2 b3 b4 b5
   go_wp2_with fail
   refine (add_any w1.heap.size b (s.size + 1) m lv _ cur _ w6 HP6.out (by omega) HCUR.out.1 HCUR.out.2 HV6.out (fun x hx => by have := HEB.out.2 x hx; omega)).mono ?_
   rintro e w7 ⟨rfl, lv7, hp7, hb7, -, -, -⟩
   have HP7 := Lib.hid hp7
   have HW7 := Lib.hid (below_add HW6.out hb7 (by have := HZ.out; omega))
   clear hp7 hb7
   go_wp2_with fail
   exact ⟨⟨k + 1, lv7, by omega, rfl, by rw [HTK.out]; exact HP7.out, HW7.out⟩, by simp [intOf]; omega⟩
end Go.Proofs.YtpkecepelcppiaaGreatDoor

namespace Go.Proofs.YtpkecepelcppiaaGreatDoor
open Go.RowKit Go.Shelf
set_option maxHeartbeats 4000000
set_option maxRecDepth 100000

def sglB (op : Int) (ls : List (List Nat)) (j : Nat) : Bool := decide (op = 6 ∧ cntL ls j = ls.length ∨ op = 7 ∧ cntL ls j = 0)
theorem sglL_B (t : List UInt8) (op : Int) (ls : List (List Nat)) (i : Nat) : sglL t op ls i = (List.range' i (t.length + 1 - i)).filter (sglB op ls) := rfl
theorem sglB6 (ls : List (List Nat)) (j : Nat) : sglB 6 ls j = decide (cntL ls j = ls.length) := by simp [sglB]
theorem sglB7 (ls : List (List Nat)) (j : Nat) : sglB 7 ls j = decide (cntL ls j = 0) := by simp [sglB]
theorem filter_snoc (p : Nat → Bool) (l : List Nat) (j : Nat) : (l ++ [j]).filter p = if p j then l.filter p ++ [j] else l.filter p := by
 rw [List.filter_append]
 cases h : p j <;> simp [h]
theorem int_info : (Tryz.prog.info? 3).map (fun i => (i.zero, i.size, i.bytes)) = some (some (.int .i64 0), 1, 8) := by kernel_rfl
theorem cntL_snoc (ls : List (List Nat)) (q : List Nat) (j : Nat) : cntL (ls ++ [q]) j = cntL ls j + q.count j := by
 unfold cntL
 simp
theorem count_take (q : List Nat) (t : Nat) (h : t < q.length) (j : Nat) : (q.take (t + 1)).count j = (q.take t).count j + if q[t] = j then 1 else 0 := by
 rw [List.take_succ_eq_append_getElem h, List.count_append]
 simp [List.count_cons, List.count_nil]
theorem cntL_le (ls : List (List Nat)) (j : Nat) (h : ∀ l ∈ ls, l.Nodup) : cntL ls j ≤ ls.length := (count_all ls j h).2.2
theorem range_snoc (i j : Nat) (h : i ≤ j) : List.range' i (j + 1 - i) = List.range' i (j - i) ++ [j] := by
 rw [show j + 1 - i = (j - i) + 1 by omega, List.range'_concat]
 congr 2
 omega
theorem single_op6 (s : ByteArray) (d : Nat) (hs : s.size ≤ 1000000) (IH : EndsC s d) (lo hi mn mx : Int) (l : List RX) (c : PC) (i : Nat) (w : World) (hp : RdP w c (.mk 6 lo hi mn mx l)) (hsn : sndR (d + 1) (.mk 6 lo hi mn mx l) = true) (hib : i ≤ s.size) :
  Calls Tryz.prog 85 #[aggP c, .string s, .int .i64 (i : Int)] w (EndP (fun _ => False) (sglL (L s) 6 (l.map fun a => endsL (L s) d a [i]) i) w) := by
 have HP := Lib.hid hp
 have HKS := Lib.hid (snd_node hsn).2
 have HIH := Lib.hid IH
 obtain ⟨la, lcap, hla⟩ := hp.forms
 have hop : c.op = 6 := by cases hp; rfl
 have hll : (l.length : Int) ≤ 9223372036854775807 := by
  have h := hp
  cases h with
  | mk _ _ _ _ _ _ _ _ hl _ =>
  obtain ⟨_, _, he, h1, h2, -⟩ := hl
  simp only [maxLen] at h2
  omega
 obtain ⟨c0, c1, c2, c3, c4, c5⟩ := c
 simp only at hop hla
 subst hop
 rw [show (RX.mk 6 lo hi mn mx l).args = l from rfl] at hla
 subst hla
 have hpm : c1 = lo ∧ c2 = hi ∧ c3 = mn ∧ c4 = mx := by cases hp; exact ⟨rfl, rfl, rfl, rfl⟩
 obtain ⟨rfl, rfl, rfl, rfl⟩ := hpm
 have hmk := run_make_row' (P := Tryz.prog) 82 3 (.int .i64 0) 8 Tryz.underlying82 int_info rfl .i64 .i64 (s.size + 1) (by omega) (by omega)
 rw [show ((s.size + 1 : Nat) : Int) = (s.size : Int) + 1 by omega] at hmk
 have HRM := Lib.hid (fun w => World.rowIs_made w (.int .i64 0) (s.size + 1) 3)
 obtain ⟨ls, hls⟩ : ∃ ls, ls = l.map fun a => endsL (L s) d a [i] := ⟨_, rfl⟩
 rw [← hls]
 have HLS := Lib.hid hls
 have HLN : Hid (ls.length = l.length) := by unfold Hid; rw [hls, List.length_map]
 have HEB : Hid (∀ q ∈ ls, q.Nodup ∧ ∀ x ∈ q, x ≤ s.size) := by
  intro q hq
  rw [hls] at hq
  obtain ⟨a, ha, rfl⟩ := List.mem_map.1 hq
  exact ends_bd s d a [i] (HKS.out a ha) (by simp) (by simpa using hib)
 simp only [aggP]
 have HI := Lib.hid hib
 clear hp hsn IH hls hib
 go_enter Tryz.func85, Tryz.ntmps85
 go_upto_region 1 with fail
 generalize hW : World.alloc w _ = w1
 obtain ⟨ha, -, hz1, hb1⟩ := alloc_of hW
 have HBX := Lib.hid (show BoxP w.heap.size ⟨6, c1, c2, c3, c4, .slice la l.length lcap⟩ w1 from ha)
 have HW1 := Lib.hid hb1
 clear hW ha hb1
 go_upto_region 2 with fail
 generalize hW : World.alloc w1 _ = w2
 have hrow : w2.rowIs w1.heap.size 3 (s.size + 1) (fun j => iv (cntL (ls.take 0) j)) := (hW ▸ HRM.out w1).congr (fun j _ => by simp [cntL, iv])
 obtain ⟨-, -, -, hb2⟩ := alloc_of hW
 have HRW := Lib.hid hrow
 replace HBX := Lib.hid (HBX.out.below hb2)
 have HW2 := Lib.hid (HW1.out.trans (hb2.mono HW1.out.size))
 have HZ := Lib.hid hz1
 obtain ⟨t0, -, -, -, -, t5⟩ := HBX.out.cells
 simp only at t0 t5
 clear hW hrow hb2 hmk HRM hz1
 rw [HZ.out] at HRW
 go_wp2_with fail
 go_loopw [9, 11, 21, 31] (fun _ _ iv _ wr => ∃ k : Nat, k ≤ l.length ∧ iv = .int .i64 (k : Int) ∧ Hid (wr.rowIs (w.heap.size + 1) 3 (s.size + 1) (fun j => Go.Proofs.YtpkecepelcppiaaGreatDoor.iv (cntL (ls.take k) j))) ∧ Hid (BoxP w.heap.size ⟨6, c1, c2, c3, c4, .slice la l.length lcap⟩ wr) ∧ Hid (Below w.heap.size w wr)) (fun _ _ iv _ _ => l.length - (intOf iv).toNat)
 case atStart => exact ⟨0, Nat.zero_le _, rfl, HRW.out, HBX.out, HW2.out⟩
 case round =>
  clear HRW HBX HW2 t0 t5
  obtain ⟨k, hk, rfl, HRW, HBX, HWR⟩ := hrel
  by_cases hlt : k < l.length
  case pos =>
   have hlti : (k : Int) < l.length := by omega
   obtain ⟨g, o, c, rfl, hc6, hrd⟩ := HP.out.part HWR.out k hlt
   have hq : ls[k]'(by rw [HLN.out]; exact hlt) = endsL (L s) d l[k] [i] := by
    have := HLS.out
    subst this
    simp
   have HTK : Hid (ls.take (k + 1) = ls.take k ++ [endsL (L s) d l[k] [i]]) := by
    unfold Hid
    rw [List.take_succ_eq_append_getElem (by rw [HLN.out]; exact hlt), hq]
   have HQB := Lib.hid (HEB.out _ (hq ▸ List.getElem_mem (by rw [HLN.out]; exact hlt)))
   have HSQ := Lib.hid (HKS.out _ (List.getElem_mem hlt))
   have HRD := Lib.hid hrd
   have HCT : Hid (∀ j, cntL (ls.take k) j ≤ k) := by
    intro j
    have := cntL_le (ls.take k) j (fun q hq => (HEB.out q (List.mem_of_mem_take hq)).1)
    rw [List.length_take] at this
    omega
   clear hq
   generalize l[k] = q at *
   obtain ⟨pa, pcap, hpa⟩ := hrd.forms
   generalize q.args.length = pn at *
   obtain ⟨p0, p1, p2, p3, p4, p5⟩ := c
   simp only at hpa
   subst hpa
   obtain ⟨b0, b1, b2, b3, b4, b5⟩ := cells6 hc6
   simp only at b0 b1 b2 b3 b4 b5
   clear hc6 hrd
   go_upto_region 5 with fail
   generalize hW : World.alloc wr _ = w5
   obtain ⟨ha, -, -, hb5⟩ := alloc_of hW
   have HB5 := Lib.hid (show BoxP wr.heap.size ⟨p0, p1, p2, p3, p4, .slice pa pn pcap⟩ w5 from ha)
   have HR5 := Lib.hid (HRW.out.of_block (hb5.block _ HRW.out.lt))
   have HX5 := Lib.hid (HBX.out.below hb5)
   replace HRD := Lib.hid (HRD.out.stays hb5)
   have HW5 := Lib.hid (HWR.out.trans (hb5.mono HWR.out.size))
   clear hW ha hb5 b0 b1 b2 b3 b4 b5 HRW HBX HWR
   obtain ⟨b0, b1, b2, b3, b4, b5⟩ := HB5.out.cells
   simp only at b0 b1 b2 b3 b4 b5
   go_wp2_with fail
   generalize hW : World.alloc w5 _ = w6
   obtain ⟨ha, -, -, hb6⟩ := alloc_of hW
   have HR6 := Lib.hid (HR5.out.of_block (hb6.block _ HR5.out.lt))
   have HX6 := Lib.hid (HX5.out.below hb6)
   have HW6 := Lib.hid (HW5.out.trans (hb6.mono HW5.out.size))
   have HC := Lib.hid (HIH.out (fun g => w5.heap.size ≤ g) q ⟨p0, p1, p2, p3, p4, .slice pa pn pcap⟩ (.slice (some ⟨w5.heap.size, 0, none⟩) 1 1) [i] w6 (HRD.out.stays hb6) HSQ.out (one_rdN ha (Nat.le_refl _)) (by simp) (by simpa using HI.out))
   have HML := Lib.hid HR5.out.lt
   clear hW ha hb6 b0 b1 b2 b3 b4 b5 HR5 HX5
   refine HC.out.mono ?_
   rintro e w7 ⟨v7, rfl, hv7, hb7⟩
   have HR7 := Lib.hid (HR6.out.of_block (hb7.block _ HR6.out.lt))
   have HX7 := Lib.hid (HX6.out.below hb7)
   have HW7 := Lib.hid (HW6.out.trans (hb7.mono HW6.out.size))
   have HV7 := Lib.hid (hv7.mono (M := fun g => g ≠ w.heap.size + 1) (fun x h hl => by
    have := HML.out
    rcases h with h | h
    ·omega
    ·have := HR6.out.lt; omega))
   obtain ⟨a7, cap7, rfl, v71, v72, -⟩ := hv7.form
   have hm7 : ((endsL (L s) d q [i]).length : Int) ≤ 9223372036854775807 := by simp only [maxLen] at v72; omega
   generalize endsL (L s) d q [i] = E at *
   clear hv7 hb7 v71 v72 HC HX6 HR6 HW6 HRD HB5 HML
   go_wp2_with fail
   go_loopw [11, 31] (fun _ iv wr => ∃ t : Nat, t ≤ E.length ∧ iv = .int .i64 (t : Int) ∧ Hid (wr.rowIs (w.heap.size + 1) 3 (s.size + 1) (fun j => Go.Proofs.YtpkecepelcppiaaGreatDoor.iv (cntL (ls.take k) j + (E.take t).count j))) ∧ Hid (BoxP w.heap.size ⟨6, c1, c2, c3, c4, .slice (some ⟨g, o, none⟩) l.length lcap⟩ wr) ∧ Hid (Below w.heap.size w wr) ∧ Hid (RdN (fun g => g ≠ w.heap.size + 1) wr (.slice a7 E.length cap7) E)) (fun _ iv _ => E.length - (intOf iv).toNat)
   case atStart => exact ⟨0, Nat.zero_le _, rfl, HR7.out.congr (fun j _ => by simp), HX7.out, HW7.out, HV7.out⟩
   case round =>
    clear HR7 HX7 HW7 HV7
    obtain ⟨t, ht, rfl, HR, HX, HW, HV⟩ := hrel
    by_cases htl : t < E.length
    case neg =>
     have hge : ¬ (t : Int) < E.length := by omega
     have HR8 : Hid (wr.rowIs (w.heap.size + 1) 3 (s.size + 1) (fun j => Go.Proofs.YtpkecepelcppiaaGreatDoor.iv (cntL (ls.take (k + 1)) j))) := HR.out.congr (fun j _ => by
      rw [HTK.out, cntL_snoc, List.take_of_length_le (l := E) (by omega)])
     clear htl
     go_wp2_with fail
     exact ⟨⟨k + 1, by omega, rfl, HR8.out, HX.out, HW.out⟩, by simp [intOf]; omega⟩
    case pos =>
     have htli : (t : Int) < E.length := by omega
     obtain ⟨a', cap', he, _, _, h3⟩ := HV.out.form
     cases he
     obtain ⟨g7, o7, rfl, hg7, hc7⟩ := h3 (by omega)
     have hck := hc7 t htl
     have HCN := Lib.hid (count_take E t htl)
     have hx : E[t] < s.size + 1 := by have := HQB.out.2 _ (List.getElem_mem htl); omega
     have HXL : Hid ((E.take t).count E[t] = 0) := by
      have h1 := nodup_count _ ((HQB.out.1).sublist (List.take_sublist (t + 1) E)) E[t]
      rw [HCN.out, if_pos rfl] at h1
      unfold Hid
      omega
     generalize E[t] = x at *
     have hcell := HR.out.cell hx
     have hfz := HR.out.frozen x
     obtain ⟨n, hn⟩ : ∃ n, n = cntL (ls.take k) x + (E.take t).count x := ⟨_, rfl⟩
     have hnb : (n : Int) + 1 ≤ (l.length : Int) := by
      have h1 := HCT.out x
      have h2 := HXL.out
      omega
     rw [← hn] at hcell
     unfold Go.Proofs.YtpkecepelcppiaaGreatDoor.iv at hcell
     have HN := Lib.hid hn
     have hxi : ((x : Nat) : Int) < (s.size : Int) + 1 := by omega
     have hx0 : (0 : Int) ≤ (x : Int) := by omega
     clear h3 hc7 hn
     go_wp2_with fail
     generalize hW : World.setCell wr _ _ = w9
     have hot : ∀ y, y ≠ w.heap.size + 1 → w9.heap[y]? = wr.heap[y]? := fun y hy => hW ▸ Below.heap_setCell wr ⟨w.heap.size + 1, x, none⟩ _ _ hy
     have hbm : Below (w.heap.size + 1) wr w9 := hW ▸ (Below.refl _ _).setCell (p := ⟨w.heap.size + 1, x, none⟩) (Nat.le_refl _) _
     have hrow : w9.rowIs (w.heap.size + 1) 3 (s.size + 1) (fun j => Go.Proofs.YtpkecepelcppiaaGreatDoor.iv (cntL (ls.take k) j + (E.take (t + 1)).count j)) := (hW ▸ HR.out.set x _).congr (fun j _ => by
      rw [HCN.out j]
      by_cases hj : j = x
      ·subst hj
       rw [if_pos rfl, if_pos rfl, ← Nat.add_assoc, ← HN.out]
       rfl
      ·rw [if_neg hj, if_neg (fun h => hj h.symm)]
       rfl)
     exact ⟨⟨t + 1, by omega, rfl, hrow, (hot _ (by omega)).trans HX.out, HW.out.trans (hbm.mono (by omega)), HV.out.keep (fun y hy _ => hot y hy)⟩, by simp [intOf]; omega⟩
  case neg =>
   have hge : ¬ (k : Int) < l.length := by omega
   have HRQ : Hid (wr.rowIs (w.heap.size + 1) 3 (s.size + 1) (fun j => Go.Proofs.YtpkecepelcppiaaGreatDoor.iv (cntL ls j))) := by
    have := HRW.out
    rw [List.take_of_length_le (by have := HLN.out; omega)] at this
    exact this
   have HCT : Hid (∀ j, cntL ls j ≤ l.length) := by
    intro j
    have := cntL_le ls j (fun q hq => (HEB.out q hq).1)
    have h2 := HLN.out
    unfold Hid at h2
    omega
   have hib : (i : Int) ≤ 1000000 := by have := HI.out; omega
   clear hlt HRW
   go_wp2_with fail
   go_loopw [12, 13] (fun ov iv wr => ∃ (j : Nat) (a : Option Addr) (n cap : Nat) (out : List Nat), i ≤ j ∧ j ≤ s.size + 1 ∧ iv = .int .i64 (j : Int) ∧ ov = .slice a n cap ∧ Hid (n = out.length ∧ out.length ≤ j - i ∧ out = (List.range' i (j - i)).filter (sglB 6 ls)) ∧ Hid (wr.ownsRow (w.heap.size + 2) 3 1 (.slice a n cap) out.length (out.map Go.Proofs.YtpkecepelcppiaaGreatDoor.iv)) ∧ Hid (wr.rowIs (w.heap.size + 1) 3 (s.size + 1) (fun j => Go.Proofs.YtpkecepelcppiaaGreatDoor.iv (cntL ls j))) ∧ Hid (BoxP w.heap.size ⟨6, c1, c2, c3, c4, .slice la l.length lcap⟩ wr) ∧ Hid (Below w.heap.size w wr)) (fun _ iv _ => s.size + 1 - (intOf iv).toNat)
   case atStart => exact ⟨i, none, 0, 0, [], Nat.le_refl _, by have := HI.out; omega, rfl, rfl, ⟨rfl, Nat.zero_le _, by rw [Nat.sub_self]; rfl⟩, World.ownsRow_nil _ _ _ 1, HRQ.out, HBX.out, HWR.out⟩
   case round =>
    clear HRQ HBX HWR hib
    obtain ⟨j, a, n, cap, out, hij, hjs, rfl, rfl, HO, HOW, HRW, HBX, HWR⟩ := hrel
    have hj6 : (j : Int) ≤ 1000001 := by omega
    by_cases hle : j ≤ s.size
    case neg =>
     have hgt : ¬ (j : Int) ≤ s.size := by omega
     have HF : Hid (sglL (L s) 6 ls i = out) := by
      unfold Hid
      rw [sglL_B, HO.out.2.2, L_len, show j = s.size + 1 by omega]
     have HFR : Hid (RdN (fun g => False ∨ w.heap.size ≤ g) wr (.slice a n cap) out) := (own_rdN HOW.out).mono (fun g hg _ => .inr (by have := (HOW.out.lt g hg).1; omega))
     clear hle
     go_wp2_with fail
     go_ret
     rw [HF.out]
     exact ⟨_, rfl, HFR.out, HWR.out⟩
    case pos =>
     have hlei : (j : Int) ≤ s.size := by omega
     have hj1 : j < s.size + 1 := by omega
     have hj2 : (j : Int) < (s.size : Int) + 1 := by omega
     have hcell := HRW.out.cell hj1
     unfold Go.Proofs.YtpkecepelcppiaaGreatDoor.iv at hcell
     obtain ⟨cn, hcn⟩ : ∃ cn, cn = cntL ls j := ⟨_, rfl⟩
     rw [← hcn] at hcell
     have HCN := Lib.hid hcn
     obtain ⟨T, hT⟩ : ∃ T, T = sglB 6 ls j := ⟨_, rfl⟩
     have HT := Lib.hid hT
     obtain ⟨t0, -, -, -, -, t5⟩ := HBX.out.cells
     simp only at t0 t5
     have hj0 : (0 : Int) ≤ (j : Int) := by omega
     have hjn : ((j : Int)).toNat = j := by omega
     clear hle hcn hT
     go_upto_region 15 with fail
     go_cut [74] (fun v wx => v = .bool T ∧ Hid (wx.ownsRow (w.heap.size + 2) 3 1 (.slice a n cap) out.length (out.map Go.Proofs.YtpkecepelcppiaaGreatDoor.iv)) ∧ Hid (wx.rowIs (w.heap.size + 1) 3 (s.size + 1) (fun j => Go.Proofs.YtpkecepelcppiaaGreatDoor.iv (cntL ls j))) ∧ Hid (BoxP w.heap.size ⟨6, c1, c2, c3, c4, .slice la l.length lcap⟩ wx) ∧ Hid (Below w.heap.size w wx))
     case first =>
      by_cases hcl : cn = l.length
      ·have eA : ((cn : Int) == (l.length : Int)) = true := by rw [hcl]; simp
       have eB : (cn == l.length) = true := by rw [hcl]; simp
       have HT2 : Hid (T = true) := by unfold Hid; rw [HT.out, sglB6, ← HCN.out, HLN.out]; exact decide_eq_true hcl
       clear hcl
       go_quiet (fail)
       go_wp2_with fail
       go_meet
       exact ⟨by rw [HT2.out], HOW.out, HRW.out, HBX.out, HWR.out.trans (below_drewN (Below.refl _ _) _)⟩
      ·have eA : ((cn : Int) == (l.length : Int)) = false := beq_false_of_ne (by omega)
       have eB : (cn == l.length) = false := beq_false_of_ne hcl
       have eC : ((6 : Int) == 7) = false := rfl
       have HT2 : Hid (T = false) := by unfold Hid; rw [HT.out, sglB6, ← HCN.out, HLN.out]; exact decide_eq_false hcl
       clear hcl
       go_quiet (fail)
       go_wp2_with fail
       go_meet
       exact ⟨by rw [HT2.out], HOW.out, HRW.out, HBX.out, HWR.out.trans (below_drewN (Below.refl _ _) _)⟩
     case rest =>
      obtain ⟨rfl, HOW2, HRW2, HBX2, HWR2⟩ := hcut
      clear HOW HRW HBX HWR hcell t0 t5
      have HRS := Lib.hid (range_snoc i j hij)
      cases T with
      | false =>
       have HO2 : Hid (n = out.length ∧ out.length ≤ j + 1 - i ∧ out = (List.range' i (j + 1 - i)).filter (sglB 6 ls)) := by
        obtain ⟨o1, o2, o3⟩ := HO.out
        refine ⟨o1, by omega, ?_⟩
        rw [HRS.out, filter_snoc, ← HT.out, ← o3]
        rfl
       go_wp2_with fail
       exact ⟨⟨j + 1, a, n, cap, out, by omega, by omega, rfl, rfl, HO2.out, HOW2.out, HRW2.out, HBX2.out, HWR2.out⟩, by simp [intOf]; omega⟩
      | true =>
       have HO2 : Hid ((out ++ [j]).length ≤ j + 1 - i ∧ out ++ [j] = (List.range' i (j + 1 - i)).filter (sglB 6 ls)) := by
        obtain ⟨o1, o2, o3⟩ := HO.out
        refine ⟨by rw [List.length_append]; simp only [List.length_cons, List.length_nil]; omega, ?_⟩
        rw [HRS.out, filter_snoc, ← HT.out, ← o3]
        rfl
       have HZB : Hid (w.heap.size + 2 ≤ wc.heap.size) := by have := HRW2.out.lt; unfold Hid; omega
       have HOL : Hid (out.length < 1000000000) := by have := HO.out.2.1; unfold Hid; omega
       go_wp2_with (at_builtin; refine wp_pushI (B := w.heap.size + 2) (x := j) (l := out) (v := .slice a n cap) _ _ rfl rfl HOW2.out rfl rfl rfl HOL.out HZB.out ?_; intro v3 w3 hown3 hg3 hat3 hfm3; obtain ⟨A3, cap3, rfl⟩ := hfm3; have HOWN3 := Lib.hid hown3; have HG3 := Lib.hid hg3; clear hown3 hg3 hat3)
       have hlo : ∀ x, x < w.heap.size + 2 → x < wc.heap.size → w3.heap[x]? = wc.heap[x]? := fun x h1 h2 => HG3.out.block x h2 (fun he => by have := (HOW2.out.lt x he.symm).1; omega)
       have hb3 : Below (w.heap.size + 2) wc w3 := ⟨HG3.out.os, HG3.out.tape, HG3.out.output, HG3.out.size, fun x hx => hlo x hx (by have := HZB.out; omega)⟩
       exact ⟨⟨j + 1, A3, out.length + 1, cap3, out ++ [j], by omega, by omega, rfl, rfl, ⟨by simp, HO2.out.1, HO2.out.2⟩, HOWN3.out, HRW2.out.of_block (hlo _ (by omega) HRW2.out.lt), (hlo _ (by omega) HBX2.out.lt).trans HBX2.out, HWR2.out.trans (hb3.mono (by omega))⟩, by simp [intOf]; omega⟩
theorem single_op7 (s : ByteArray) (d : Nat) (hs : s.size ≤ 1000000) (IH : EndsC s d) (lo hi mn mx : Int) (l : List RX) (c : PC) (i : Nat) (w : World) (hp : RdP w c (.mk 7 lo hi mn mx l)) (hsn : sndR (d + 1) (.mk 7 lo hi mn mx l) = true) (hib : i ≤ s.size) :
  Calls Tryz.prog 85 #[aggP c, .string s, .int .i64 (i : Int)] w (EndP (fun _ => False) (sglL (L s) 7 (l.map fun a => endsL (L s) d a [i]) i) w) := by
 have HP := Lib.hid hp
 have HKS := Lib.hid (snd_node hsn).2
 have HIH := Lib.hid IH
 obtain ⟨la, lcap, hla⟩ := hp.forms
 have hop : c.op = 7 := by cases hp; rfl
 have hll : (l.length : Int) ≤ 9223372036854775807 := by
  have h := hp
  cases h with
  | mk _ _ _ _ _ _ _ _ hl _ =>
  obtain ⟨_, _, he, h1, h2, -⟩ := hl
  simp only [maxLen] at h2
  omega
 obtain ⟨c0, c1, c2, c3, c4, c5⟩ := c
 simp only at hop hla
 subst hop
 rw [show (RX.mk 7 lo hi mn mx l).args = l from rfl] at hla
 subst hla
 have hpm : c1 = lo ∧ c2 = hi ∧ c3 = mn ∧ c4 = mx := by cases hp; exact ⟨rfl, rfl, rfl, rfl⟩
 obtain ⟨rfl, rfl, rfl, rfl⟩ := hpm
 have hmk := run_make_row' (P := Tryz.prog) 82 3 (.int .i64 0) 8 Tryz.underlying82 int_info rfl .i64 .i64 (s.size + 1) (by omega) (by omega)
 rw [show ((s.size + 1 : Nat) : Int) = (s.size : Int) + 1 by omega] at hmk
 have HRM := Lib.hid (fun w => World.rowIs_made w (.int .i64 0) (s.size + 1) 3)
 obtain ⟨ls, hls⟩ : ∃ ls, ls = l.map fun a => endsL (L s) d a [i] := ⟨_, rfl⟩
 rw [← hls]
 have HLS := Lib.hid hls
 have HLN : Hid (ls.length = l.length) := by unfold Hid; rw [hls, List.length_map]
 have HEB : Hid (∀ q ∈ ls, q.Nodup ∧ ∀ x ∈ q, x ≤ s.size) := by
  intro q hq
  rw [hls] at hq
  obtain ⟨a, ha, rfl⟩ := List.mem_map.1 hq
  exact ends_bd s d a [i] (HKS.out a ha) (by simp) (by simpa using hib)
 simp only [aggP]
 have HI := Lib.hid hib
 clear hp hsn IH hls hib
 go_enter Tryz.func85, Tryz.ntmps85
 go_upto_region 1 with fail
 generalize hW : World.alloc w _ = w1
 obtain ⟨ha, -, hz1, hb1⟩ := alloc_of hW
 have HBX := Lib.hid (show BoxP w.heap.size ⟨7, c1, c2, c3, c4, .slice la l.length lcap⟩ w1 from ha)
 have HW1 := Lib.hid hb1
 clear hW ha hb1
 go_upto_region 2 with fail
 generalize hW : World.alloc w1 _ = w2
 have hrow : w2.rowIs w1.heap.size 3 (s.size + 1) (fun j => iv (cntL (ls.take 0) j)) := (hW ▸ HRM.out w1).congr (fun j _ => by simp [cntL, iv])
 obtain ⟨-, -, -, hb2⟩ := alloc_of hW
 have HRW := Lib.hid hrow
 replace HBX := Lib.hid (HBX.out.below hb2)
 have HW2 := Lib.hid (HW1.out.trans (hb2.mono HW1.out.size))
 have HZ := Lib.hid hz1
 obtain ⟨t0, -, -, -, -, t5⟩ := HBX.out.cells
 simp only at t0 t5
 clear hW hrow hb2 hmk HRM hz1
 rw [HZ.out] at HRW
 go_wp2_with fail
 go_loopw [9, 11, 21, 31] (fun _ _ iv _ wr => ∃ k : Nat, k ≤ l.length ∧ iv = .int .i64 (k : Int) ∧ Hid (wr.rowIs (w.heap.size + 1) 3 (s.size + 1) (fun j => Go.Proofs.YtpkecepelcppiaaGreatDoor.iv (cntL (ls.take k) j))) ∧ Hid (BoxP w.heap.size ⟨7, c1, c2, c3, c4, .slice la l.length lcap⟩ wr) ∧ Hid (Below w.heap.size w wr)) (fun _ _ iv _ _ => l.length - (intOf iv).toNat)
 case atStart => exact ⟨0, Nat.zero_le _, rfl, HRW.out, HBX.out, HW2.out⟩
 case round =>
  clear HRW HBX HW2 t0 t5
  obtain ⟨k, hk, rfl, HRW, HBX, HWR⟩ := hrel
  by_cases hlt : k < l.length
  case pos =>
   have hlti : (k : Int) < l.length := by omega
   obtain ⟨g, o, c, rfl, hc6, hrd⟩ := HP.out.part HWR.out k hlt
   have hq : ls[k]'(by rw [HLN.out]; exact hlt) = endsL (L s) d l[k] [i] := by
    have := HLS.out
    subst this
    simp
   have HTK : Hid (ls.take (k + 1) = ls.take k ++ [endsL (L s) d l[k] [i]]) := by
    unfold Hid
    rw [List.take_succ_eq_append_getElem (by rw [HLN.out]; exact hlt), hq]
   have HQB := Lib.hid (HEB.out _ (hq ▸ List.getElem_mem (by rw [HLN.out]; exact hlt)))
   have HSQ := Lib.hid (HKS.out _ (List.getElem_mem hlt))
   have HRD := Lib.hid hrd
   have HCT : Hid (∀ j, cntL (ls.take k) j ≤ k) := by
    intro j
    have := cntL_le (ls.take k) j (fun q hq => (HEB.out q (List.mem_of_mem_take hq)).1)
    rw [List.length_take] at this
    omega
   clear hq
   generalize l[k] = q at *
   obtain ⟨pa, pcap, hpa⟩ := hrd.forms
   generalize q.args.length = pn at *
   obtain ⟨p0, p1, p2, p3, p4, p5⟩ := c
   simp only at hpa
   subst hpa
   obtain ⟨b0, b1, b2, b3, b4, b5⟩ := cells6 hc6
   simp only at b0 b1 b2 b3 b4 b5
   clear hc6 hrd
   go_upto_region 5 with fail
   generalize hW : World.alloc wr _ = w5
   obtain ⟨ha, -, -, hb5⟩ := alloc_of hW
   have HB5 := Lib.hid (show BoxP wr.heap.size ⟨p0, p1, p2, p3, p4, .slice pa pn pcap⟩ w5 from ha)
   have HR5 := Lib.hid (HRW.out.of_block (hb5.block _ HRW.out.lt))
   have HX5 := Lib.hid (HBX.out.below hb5)
   replace HRD := Lib.hid (HRD.out.stays hb5)
   have HW5 := Lib.hid (HWR.out.trans (hb5.mono HWR.out.size))
   clear hW ha hb5 b0 b1 b2 b3 b4 b5 HRW HBX HWR
   obtain ⟨b0, b1, b2, b3, b4, b5⟩ := HB5.out.cells
   simp only at b0 b1 b2 b3 b4 b5
   go_wp2_with fail
   generalize hW : World.alloc w5 _ = w6
   obtain ⟨ha, -, -, hb6⟩ := alloc_of hW
   have HR6 := Lib.hid (HR5.out.of_block (hb6.block _ HR5.out.lt))
   have HX6 := Lib.hid (HX5.out.below hb6)
   have HW6 := Lib.hid (HW5.out.trans (hb6.mono HW5.out.size))
   have HC := Lib.hid (HIH.out (fun g => w5.heap.size ≤ g) q ⟨p0, p1, p2, p3, p4, .slice pa pn pcap⟩ (.slice (some ⟨w5.heap.size, 0, none⟩) 1 1) [i] w6 (HRD.out.stays hb6) HSQ.out (one_rdN ha (Nat.le_refl _)) (by simp) (by simpa using HI.out))
   have HML := Lib.hid HR5.out.lt
   clear hW ha hb6 b0 b1 b2 b3 b4 b5 HR5 HX5
   refine HC.out.mono ?_
   rintro e w7 ⟨v7, rfl, hv7, hb7⟩
   have HR7 := Lib.hid (HR6.out.of_block (hb7.block _ HR6.out.lt))
   have HX7 := Lib.hid (HX6.out.below hb7)
   have HW7 := Lib.hid (HW6.out.trans (hb7.mono HW6.out.size))
   have HV7 := Lib.hid (hv7.mono (M := fun g => g ≠ w.heap.size + 1) (fun x h hl => by
    have := HML.out
    rcases h with h | h
    ·omega
    ·have := HR6.out.lt; omega))
   obtain ⟨a7, cap7, rfl, v71, v72, -⟩ := hv7.form
   have hm7 : ((endsL (L s) d q [i]).length : Int) ≤ 9223372036854775807 := by simp only [maxLen] at v72; omega
   generalize endsL (L s) d q [i] = E at *
   clear hv7 hb7 v71 v72 HC HX6 HR6 HW6 HRD HB5 HML
   go_wp2_with fail
   go_loopw [11, 31] (fun _ iv wr => ∃ t : Nat, t ≤ E.length ∧ iv = .int .i64 (t : Int) ∧ Hid (wr.rowIs (w.heap.size + 1) 3 (s.size + 1) (fun j => Go.Proofs.YtpkecepelcppiaaGreatDoor.iv (cntL (ls.take k) j + (E.take t).count j))) ∧ Hid (BoxP w.heap.size ⟨7, c1, c2, c3, c4, .slice (some ⟨g, o, none⟩) l.length lcap⟩ wr) ∧ Hid (Below w.heap.size w wr) ∧ Hid (RdN (fun g => g ≠ w.heap.size + 1) wr (.slice a7 E.length cap7) E)) (fun _ iv _ => E.length - (intOf iv).toNat)
   case atStart => exact ⟨0, Nat.zero_le _, rfl, HR7.out.congr (fun j _ => by simp), HX7.out, HW7.out, HV7.out⟩
   case round =>
    clear HR7 HX7 HW7 HV7
    obtain ⟨t, ht, rfl, HR, HX, HW, HV⟩ := hrel
    by_cases htl : t < E.length
    case neg =>
     have hge : ¬ (t : Int) < E.length := by omega
     have HR8 : Hid (wr.rowIs (w.heap.size + 1) 3 (s.size + 1) (fun j => Go.Proofs.YtpkecepelcppiaaGreatDoor.iv (cntL (ls.take (k + 1)) j))) := HR.out.congr (fun j _ => by
      rw [HTK.out, cntL_snoc, List.take_of_length_le (l := E) (by omega)])
     clear htl
     go_wp2_with fail
     exact ⟨⟨k + 1, by omega, rfl, HR8.out, HX.out, HW.out⟩, by simp [intOf]; omega⟩
    case pos =>
     have htli : (t : Int) < E.length := by omega
     obtain ⟨a', cap', he, _, _, h3⟩ := HV.out.form
     cases he
     obtain ⟨g7, o7, rfl, hg7, hc7⟩ := h3 (by omega)
     have hck := hc7 t htl
     have HCN := Lib.hid (count_take E t htl)
     have hx : E[t] < s.size + 1 := by have := HQB.out.2 _ (List.getElem_mem htl); omega
     have HXL : Hid ((E.take t).count E[t] = 0) := by
      have h1 := nodup_count _ ((HQB.out.1).sublist (List.take_sublist (t + 1) E)) E[t]
      rw [HCN.out, if_pos rfl] at h1
      unfold Hid
      omega
     generalize E[t] = x at *
     have hcell := HR.out.cell hx
     have hfz := HR.out.frozen x
     obtain ⟨n, hn⟩ : ∃ n, n = cntL (ls.take k) x + (E.take t).count x := ⟨_, rfl⟩
     have hnb : (n : Int) + 1 ≤ (l.length : Int) := by
      have h1 := HCT.out x
      have h2 := HXL.out
      omega
     rw [← hn] at hcell
     unfold Go.Proofs.YtpkecepelcppiaaGreatDoor.iv at hcell
     have HN := Lib.hid hn
     have hxi : ((x : Nat) : Int) < (s.size : Int) + 1 := by omega
     have hx0 : (0 : Int) ≤ (x : Int) := by omega
     clear h3 hc7 hn
     go_wp2_with fail
     generalize hW : World.setCell wr _ _ = w9
     have hot : ∀ y, y ≠ w.heap.size + 1 → w9.heap[y]? = wr.heap[y]? := fun y hy => hW ▸ Below.heap_setCell wr ⟨w.heap.size + 1, x, none⟩ _ _ hy
     have hbm : Below (w.heap.size + 1) wr w9 := hW ▸ (Below.refl _ _).setCell (p := ⟨w.heap.size + 1, x, none⟩) (Nat.le_refl _) _
     have hrow : w9.rowIs (w.heap.size + 1) 3 (s.size + 1) (fun j => Go.Proofs.YtpkecepelcppiaaGreatDoor.iv (cntL (ls.take k) j + (E.take (t + 1)).count j)) := (hW ▸ HR.out.set x _).congr (fun j _ => by
      rw [HCN.out j]
      by_cases hj : j = x
      ·subst hj
       rw [if_pos rfl, if_pos rfl, ← Nat.add_assoc, ← HN.out]
       rfl
      ·rw [if_neg hj, if_neg (fun h => hj h.symm)]
       rfl)
     exact ⟨⟨t + 1, by omega, rfl, hrow, (hot _ (by omega)).trans HX.out, HW.out.trans (hbm.mono (by omega)), HV.out.keep (fun y hy _ => hot y hy)⟩, by simp [intOf]; omega⟩
  case neg =>
   have hge : ¬ (k : Int) < l.length := by omega
   have HRQ : Hid (wr.rowIs (w.heap.size + 1) 3 (s.size + 1) (fun j => Go.Proofs.YtpkecepelcppiaaGreatDoor.iv (cntL ls j))) := by
    have := HRW.out
    rw [List.take_of_length_le (by have := HLN.out; omega)] at this
    exact this
   have HCT : Hid (∀ j, cntL ls j ≤ l.length) := by
    intro j
    have := cntL_le ls j (fun q hq => (HEB.out q hq).1)
    have h2 := HLN.out
    unfold Hid at h2
    omega
   have hib : (i : Int) ≤ 1000000 := by have := HI.out; omega
   clear hlt HRW
   go_wp2_with fail
   go_loopw [12, 13] (fun ov iv wr => ∃ (j : Nat) (a : Option Addr) (n cap : Nat) (out : List Nat), i ≤ j ∧ j ≤ s.size + 1 ∧ iv = .int .i64 (j : Int) ∧ ov = .slice a n cap ∧ Hid (n = out.length ∧ out.length ≤ j - i ∧ out = (List.range' i (j - i)).filter (sglB 7 ls)) ∧ Hid (wr.ownsRow (w.heap.size + 2) 3 1 (.slice a n cap) out.length (out.map Go.Proofs.YtpkecepelcppiaaGreatDoor.iv)) ∧ Hid (wr.rowIs (w.heap.size + 1) 3 (s.size + 1) (fun j => Go.Proofs.YtpkecepelcppiaaGreatDoor.iv (cntL ls j))) ∧ Hid (BoxP w.heap.size ⟨7, c1, c2, c3, c4, .slice la l.length lcap⟩ wr) ∧ Hid (Below w.heap.size w wr)) (fun _ iv _ => s.size + 1 - (intOf iv).toNat)
   case atStart => exact ⟨i, none, 0, 0, [], Nat.le_refl _, by have := HI.out; omega, rfl, rfl, ⟨rfl, Nat.zero_le _, by rw [Nat.sub_self]; rfl⟩, World.ownsRow_nil _ _ _ 1, HRQ.out, HBX.out, HWR.out⟩
   case round =>
    clear HRQ HBX HWR hib
    obtain ⟨j, a, n, cap, out, hij, hjs, rfl, rfl, HO, HOW, HRW, HBX, HWR⟩ := hrel
    have hj6 : (j : Int) ≤ 1000001 := by omega
    by_cases hle : j ≤ s.size
    case neg =>
     have hgt : ¬ (j : Int) ≤ s.size := by omega
     have HF : Hid (sglL (L s) 7 ls i = out) := by
      unfold Hid
      rw [sglL_B, HO.out.2.2, L_len, show j = s.size + 1 by omega]
     have HFR : Hid (RdN (fun g => False ∨ w.heap.size ≤ g) wr (.slice a n cap) out) := (own_rdN HOW.out).mono (fun g hg _ => .inr (by have := (HOW.out.lt g hg).1; omega))
     clear hle
     go_wp2_with fail
     go_ret
     rw [HF.out]
     exact ⟨_, rfl, HFR.out, HWR.out⟩
    case pos =>
     have hlei : (j : Int) ≤ s.size := by omega
     have hj1 : j < s.size + 1 := by omega
     have hj2 : (j : Int) < (s.size : Int) + 1 := by omega
     have hcell := HRW.out.cell hj1
     unfold Go.Proofs.YtpkecepelcppiaaGreatDoor.iv at hcell
     obtain ⟨cn, hcn⟩ : ∃ cn, cn = cntL ls j := ⟨_, rfl⟩
     rw [← hcn] at hcell
     have HCN := Lib.hid hcn
     obtain ⟨T, hT⟩ : ∃ T, T = sglB 7 ls j := ⟨_, rfl⟩
     have HT := Lib.hid hT
     obtain ⟨t0, -, -, -, -, t5⟩ := HBX.out.cells
     simp only at t0 t5
     have hj0 : (0 : Int) ≤ (j : Int) := by omega
     have hjn : ((j : Int)).toNat = j := by omega
     clear hle hcn hT
     go_upto_region 15 with fail
     go_cut [74] (fun v wx => v = .bool T ∧ Hid (wx.ownsRow (w.heap.size + 2) 3 1 (.slice a n cap) out.length (out.map Go.Proofs.YtpkecepelcppiaaGreatDoor.iv)) ∧ Hid (wx.rowIs (w.heap.size + 1) 3 (s.size + 1) (fun j => Go.Proofs.YtpkecepelcppiaaGreatDoor.iv (cntL ls j))) ∧ Hid (BoxP w.heap.size ⟨7, c1, c2, c3, c4, .slice la l.length lcap⟩ wx) ∧ Hid (Below w.heap.size w wx))
     case first =>
      have eC : ((7 : Int) == 6) = false := rfl
      have eD : ((7 : Int) == 7) = true := rfl
      by_cases hcl : cn = 0
      ·have eA : ((cn : Int) == 0) = true := by rw [hcl]; rfl
       have HT2 : Hid (T = true) := by unfold Hid; rw [HT.out, sglB7, ← HCN.out]; exact decide_eq_true hcl
       clear hcl
       go_quiet (fail)
       go_wp2_with fail
       go_meet
       exact ⟨by rw [HT2.out], HOW.out, HRW.out, HBX.out, HWR.out.trans (below_drewN (Below.refl _ _) _)⟩
      ·have eA : ((cn : Int) == 0) = false := beq_false_of_ne (by omega)
       have HT2 : Hid (T = false) := by unfold Hid; rw [HT.out, sglB7, ← HCN.out]; exact decide_eq_false hcl
       clear hcl
       go_quiet (fail)
       go_wp2_with fail
       go_meet
       exact ⟨by rw [HT2.out], HOW.out, HRW.out, HBX.out, HWR.out.trans (below_drewN (Below.refl _ _) _)⟩
     case rest =>
      obtain ⟨rfl, HOW2, HRW2, HBX2, HWR2⟩ := hcut
      clear HOW HRW HBX HWR hcell t0 t5
      have HRS := Lib.hid (range_snoc i j hij)
      cases T with
      | false =>
       have HO2 : Hid (n = out.length ∧ out.length ≤ j + 1 - i ∧ out = (List.range' i (j + 1 - i)).filter (sglB 7 ls)) := by
        obtain ⟨o1, o2, o3⟩ := HO.out
        refine ⟨o1, by omega, ?_⟩
        rw [HRS.out, filter_snoc, ← HT.out, ← o3]
        rfl
       go_wp2_with fail
       exact ⟨⟨j + 1, a, n, cap, out, by omega, by omega, rfl, rfl, HO2.out, HOW2.out, HRW2.out, HBX2.out, HWR2.out⟩, by simp [intOf]; omega⟩
      | true =>
       have HO2 : Hid ((out ++ [j]).length ≤ j + 1 - i ∧ out ++ [j] = (List.range' i (j + 1 - i)).filter (sglB 7 ls)) := by
        obtain ⟨o1, o2, o3⟩ := HO.out
        refine ⟨by rw [List.length_append]; simp only [List.length_cons, List.length_nil]; omega, ?_⟩
        rw [HRS.out, filter_snoc, ← HT.out, ← o3]
        rfl
       have HZB : Hid (w.heap.size + 2 ≤ wc.heap.size) := by have := HRW2.out.lt; unfold Hid; omega
       have HOL : Hid (out.length < 1000000000) := by have := HO.out.2.1; unfold Hid; omega
       go_wp2_with (at_builtin; refine wp_pushI (B := w.heap.size + 2) (x := j) (l := out) (v := .slice a n cap) _ _ rfl rfl HOW2.out rfl rfl rfl HOL.out HZB.out ?_; intro v3 w3 hown3 hg3 hat3 hfm3; obtain ⟨A3, cap3, rfl⟩ := hfm3; have HOWN3 := Lib.hid hown3; have HG3 := Lib.hid hg3; clear hown3 hg3 hat3)
       have hlo : ∀ x, x < w.heap.size + 2 → x < wc.heap.size → w3.heap[x]? = wc.heap[x]? := fun x h1 h2 => HG3.out.block x h2 (fun he => by have := (HOW2.out.lt x he.symm).1; omega)
       have hb3 : Below (w.heap.size + 2) wc w3 := ⟨HG3.out.os, HG3.out.tape, HG3.out.output, HG3.out.size, fun x hx => hlo x hx (by have := HZB.out; omega)⟩
       exact ⟨⟨j + 1, A3, out.length + 1, cap3, out ++ [j], by omega, by omega, rfl, rfl, ⟨by simp, HO2.out.1, HO2.out.2⟩, HOWN3.out, HRW2.out.of_block (hlo _ (by omega) HRW2.out.lt), (hlo _ (by omega) HBX2.out.lt).trans HBX2.out, HWR2.out.trans (hb3.mono (by omega))⟩, by simp [intOf]; omega⟩
end Go.Proofs.YtpkecepelcppiaaGreatDoor

namespace Go.Proofs.YtpkecepelcppiaaGreatDoor
open Go.RowKit Go.Shelf
set_option maxHeartbeats 4000000
set_option maxRecDepth 100000

theorem sgl_bd (s : ByteArray) (op : Int) (ls : List (List Nat)) (i : Nat) : (sglL (L s) op ls i).Nodup ∧ ∀ x ∈ sglL (L s) op ls i, x < s.size + 1 := by
 rw [sglL_B, L_len]
 refine ⟨(List.nodup_range' (step := 1)).filter _, fun x hx => ?_⟩
 have := (List.mem_filter.1 hx).1
 rw [List.mem_range'_1] at this
 omega
theorem ends_op6 (s : ByteArray) (d : Nat) (hs : s.size ≤ 1000000) (IH : EndsC s d) (N : Nat → Prop) (lo hi mn mx : Int) (l : List RX) (c : PC) (v : Value) (fr : List Nat) (w : World) (hp : RdP w c (.mk 6 lo hi mn mx l)) (hsn : sndR (d + 1) (.mk 6 lo hi mn mx l) = true)
  (hv : RdN N w v fr) (hnd : fr.Nodup) (hb : ∀ x ∈ fr, x ≤ s.size) (hne : 0 < fr.length) :
  Calls Tryz.prog 57 #[aggP c, .string s, v] w (EndP N (endsL (L s) (d + 1) (.mk 6 lo hi mn mx l) fr) w) := by
 have HSN := Lib.hid hsn
 have HP := Lib.hid hp
 have HV := Lib.hid hv
 have HND := Lib.hid hnd
 have HB := Lib.hid hb
 have hfr : fr ≠ [] := by intro h; rw [h] at hne; exact absurd hne (Nat.lt_irrefl _)
 obtain ⟨fa, fcap, hfv, f1, f2, -⟩ := hv.form
 obtain ⟨la, lcap, hla⟩ := hp.forms
 have hm1 : (fr.length : Int) ≤ 9223372036854775807 := by simp only [maxLen] at f2; omega
 have hm0 : ((fr.length : Int) == 0) = false := beq_false_of_ne (by omega)
 have hop : c.op = 6 ∧ c.lo = lo ∧ c.hi = hi ∧ c.mn = mn ∧ c.mx = mx := by cases hp; exact ⟨rfl, rfl, rfl, rfl, rfl⟩
 have HFR := Lib.hid hfr
 have hs0 := hs
 obtain ⟨c0, c1, c2, c3, c4, c5⟩ := c
 simp only at hop hla
 obtain ⟨rfl, rfl, rfl, rfl, rfl⟩ := hop
 rw [show (RX.mk 6 c1 c2 c3 c4 l).args = l from rfl] at hla
 subst hla
 obtain ⟨fn, hfn⟩ : ∃ fn, fn = fr.length := ⟨_, rfl⟩
 rw [← hfn] at hfv hm1 hm0 hne
 subst hfv
 have HFN := Lib.hid hfn
 simp only [aggP]
 clear hp hsn hv hnd hb hfr f1 f2 hfn
 go_enter Tryz.func57, Tryz.ntmps57
 go_upto_region 1 with fail
 generalize hW : World.alloc w _ = w1
 obtain ⟨ha, -, hz1, hb1⟩ := alloc_of hW
 have HBX := Lib.hid (show BoxP w.heap.size ⟨6, c1, c2, c3, c4, .slice la l.length lcap⟩ w1 from ha)
 have HW1 := Lib.hid hb1
 clear hW ha hb1
 go_wp2_with fail
 refine (newPlaces_any s w1 (by omega)).mono ?_
 rintro e w2 ⟨b, m, rfl, hpl, hb2⟩
 have HPL := Lib.hid hpl
 replace HBX := Lib.hid (HBX.out.below hb2)
 have HW2 := Lib.hid (HW1.out.trans (hb2.mono HW1.out.size))
 have HPB : Hid (w.heap.size + 1 ≤ b ∧ w.heap.size + 1 ≤ m) := ⟨by have := hpl.ne.2.2.2.1; omega, by have := hpl.ne.2.2.2.2; omega⟩
 obtain ⟨t0, t1, t2, t3, t4, t5⟩ := HBX.out.cells
 simp only at t0 t1 t2 t3 t4 t5
 clear hpl hb2
 have HQ := Lib.hid (show endsL (L s) (d + 1) (.mk 6 c1 c2 c3 c4 l) fr = fr.foldl (fun o i => addL o (sglL (L s) 6 (l.map fun a => endsL (L s) d a [i]) i)) [] from by simp [endsL, HFR.out])
 have HSG := Lib.hid (fun (i : Nat) w' hp hi => single_op6 s d hs IH c1 c2 c3 c4 l ⟨6, c1, c2, c3, c4, .slice la l.length lcap⟩ i w' hp HSN.out hi)
 have HZ := Lib.hid hz1
 clear hz1 t0 t1 t2 t3 t4 t5 IH hne hm0
 obtain ⟨t0, -, -, -, -, -⟩ := HBX.out.cells
 simp only at t0
 go_wp2_with fail
 go_loopw [15, 98] (fun _ iv wr => ∃ (k : Nat) (lv : Value), k ≤ fr.length ∧ iv = .int .i64 (k : Int) ∧ Hid (Pl w1.heap.size b (s.size + 1) m lv ((fr.take k).foldl (fun o i => addL o (sglL (L s) 6 (l.map fun a => endsL (L s) d a [i]) i)) []) wr) ∧ Hid (Below w.heap.size w wr) ∧ Hid (BoxP w.heap.size ⟨6, c1, c2, c3, c4, .slice la l.length lcap⟩ wr)) (fun _ iv _ => fr.length - (intOf iv).toNat)
 case atStart => exact ⟨0, _, Nat.zero_le _, rfl, by rw [List.take_zero]; exact HPL.out, HW2.out, HBX.out⟩
 case round =>
  clear HPL HBX HW2 t0
  obtain ⟨k, lv, hk, rfl, HPL, HWR, HBX⟩ := hrel
  by_cases hlt : k < fr.length
  case neg =>
   have hge : ¬ (k : Int) < fn := by have := HFN.out; omega
   have HPQ : Hid (Pl w1.heap.size b (s.size + 1) m lv (fr.foldl (fun o i => addL o (sglL (L s) 6 (l.map fun a => endsL (L s) d a [i]) i)) []) wr) := by
    have := HPL.out
    rw [List.take_of_length_le (by omega)] at this
    exact this
   obtain ⟨p0, p1⟩ := HPQ.out.cells
   clear hlt
   go_wp2_with fail
   go_ret
   rw [HQ.out]
   exact HPQ.out.endP (by have := HZ.out; omega) HWR.out
  case pos =>
   have hlti : (k : Int) < fn := by have := HFN.out; omega
   obtain ⟨g, o, rfl, hck⟩ := HV.out.at HWR.out k hlt
   have HX : Hid (fr[k] ≤ s.size) := HB.out _ (List.getElem_mem hlt)
   have HTK : Hid ((fr.take (k + 1)).foldl (fun o i => addL o (sglL (L s) 6 (l.map fun a => endsL (L s) d a [i]) i)) [] = addL ((fr.take k).foldl (fun o i => addL o (sglL (L s) 6 (l.map fun a => endsL (L s) d a [i]) i)) []) (sglL (L s) 6 (l.map fun a => endsL (L s) d a [fr[k]]) fr[k])) := by
    unfold Hid
    rw [List.take_succ_eq_append_getElem hlt, List.foldl_append]
    rfl
   have HCUR : Hid (((fr.take k).foldl (fun o i => addL o (sglL (L s) 6 (l.map fun a => endsL (L s) d a [i]) i)) []).Nodup ∧ ∀ x ∈ ((fr.take k).foldl (fun o i => addL o (sglL (L s) 6 (l.map fun a => endsL (L s) d a [i]) i)) []), x < s.size + 1) := by
    refine ⟨foldl_addL_nodup _ _ _ (by simp), fun x hx => ?_⟩
    rcases (foldl_addA (fun i => sglL (L s) 6 (l.map fun a => endsL (L s) d a [i]) i) _ _ _).1 hx with h | ⟨a, ha, h⟩
    ·cases h
    ·exact (sgl_bd s 6 _ a).2 x h
   generalize (fr.take k).foldl (fun o i => addL o (sglL (L s) 6 (l.map fun a => endsL (L s) d a [i]) i)) [] = cur at *
   generalize fr[k] = i at *
   obtain ⟨t0, t1, t2, t3, t4, t5⟩ := HBX.out.cells
   simp only at t0 t1 t2 t3 t4 t5
   have HC := Lib.hid (HSG.out i wr (HP.out.stays HWR.out) HX.out)
   have HEB := Lib.hid (sgl_bd s 6 (l.map fun a => endsL (L s) d a [i]) i)
   generalize sglL (L s) 6 (l.map fun a => endsL (L s) d a [i]) i = E at *
   go_wp2_with fail
   refine HC.out.mono ?_
   rintro e w6 ⟨v6, rfl, hv6, hb6⟩
   obtain ⟨a6, cap6, rfl, -⟩ := hv6.form
   have HV6 := Lib.hid (hv6.mono (M := fun x => ¬ PlB b m lv x) (fun x h hl he => by
    have h1 := HPL.out.lt
    rcases h with h | h
    ·exact h
    rcases he with he | he | he
    ·omega
    ·omega
    ·have := HPL.out.own.lt _ he
     omega))
   have HP6 := Lib.hid (HPL.out.stay hb6)
   have HW6 := Lib.hid (HWR.out.trans (hb6.mono HWR.out.size))
   have HB6 := Lib.hid (HBX.out.below hb6)
   clear hv6 hb6 HC t0 t1 t2 t3 t4 t5 HPL HWR HBX
   go_wp2_with fail
   refine (add_any w1.heap.size b (s.size + 1) m lv _ cur _ w6 HP6.out (by omega) HCUR.out.1 HCUR.out.2 HV6.out (fun x hx => HEB.out.2 x hx)).mono ?_
   rintro e w7 ⟨rfl, lv7, hp7, hb7, hk7, -, -⟩
   have HP7 := Lib.hid hp7
   have HB7 := Lib.hid (show BoxP w.heap.size ⟨6, c1, c2, c3, c4, .slice la l.length lcap⟩ w7 from (hk7 _ (fun he => by
    have h1 := HPB.out
    rcases he with he | he | he
    ·omega
    ·omega
    ·have := (HP6.out.own.lt _ he).1
     have := HZ.out
     omega) HB6.out.lt).trans HB6.out)
   have HW7 := Lib.hid (below_add HW6.out hb7 (by have := HZ.out; omega))
   clear hp7 hb7 hk7
   go_wp2_with fail
   exact ⟨⟨k + 1, lv7, by omega, rfl, by rw [HTK.out]; exact HP7.out, HW7.out, HB7.out⟩, by simp [intOf]; omega⟩
theorem ends_op7 (s : ByteArray) (d : Nat) (hs : s.size ≤ 1000000) (IH : EndsC s d) (N : Nat → Prop) (lo hi mn mx : Int) (l : List RX) (c : PC) (v : Value) (fr : List Nat) (w : World) (hp : RdP w c (.mk 7 lo hi mn mx l)) (hsn : sndR (d + 1) (.mk 7 lo hi mn mx l) = true)
  (hv : RdN N w v fr) (hnd : fr.Nodup) (hb : ∀ x ∈ fr, x ≤ s.size) (hne : 0 < fr.length) :
  Calls Tryz.prog 57 #[aggP c, .string s, v] w (EndP N (endsL (L s) (d + 1) (.mk 7 lo hi mn mx l) fr) w) := by
 have HSN := Lib.hid hsn
 have HP := Lib.hid hp
 have HV := Lib.hid hv
 have HND := Lib.hid hnd
 have HB := Lib.hid hb
 have hfr : fr ≠ [] := by intro h; rw [h] at hne; exact absurd hne (Nat.lt_irrefl _)
 obtain ⟨fa, fcap, hfv, f1, f2, -⟩ := hv.form
 obtain ⟨la, lcap, hla⟩ := hp.forms
 have hm1 : (fr.length : Int) ≤ 9223372036854775807 := by simp only [maxLen] at f2; omega
 have hm0 : ((fr.length : Int) == 0) = false := beq_false_of_ne (by omega)
 have hop : c.op = 7 ∧ c.lo = lo ∧ c.hi = hi ∧ c.mn = mn ∧ c.mx = mx := by cases hp; exact ⟨rfl, rfl, rfl, rfl, rfl⟩
 have HFR := Lib.hid hfr
 have hs0 := hs
 obtain ⟨c0, c1, c2, c3, c4, c5⟩ := c
 simp only at hop hla
 obtain ⟨rfl, rfl, rfl, rfl, rfl⟩ := hop
 rw [show (RX.mk 7 c1 c2 c3 c4 l).args = l from rfl] at hla
 subst hla
 obtain ⟨fn, hfn⟩ : ∃ fn, fn = fr.length := ⟨_, rfl⟩
 rw [← hfn] at hfv hm1 hm0 hne
 subst hfv
 have HFN := Lib.hid hfn
 simp only [aggP]
 clear hp hsn hv hnd hb hfr f1 f2 hfn
 go_enter Tryz.func57, Tryz.ntmps57
 go_upto_region 1 with fail
 generalize hW : World.alloc w _ = w1
 obtain ⟨ha, -, hz1, hb1⟩ := alloc_of hW
 have HBX := Lib.hid (show BoxP w.heap.size ⟨7, c1, c2, c3, c4, .slice la l.length lcap⟩ w1 from ha)
 have HW1 := Lib.hid hb1
 clear hW ha hb1
 go_wp2_with fail
 refine (newPlaces_any s w1 (by omega)).mono ?_
 rintro e w2 ⟨b, m, rfl, hpl, hb2⟩
 have HPL := Lib.hid hpl
 replace HBX := Lib.hid (HBX.out.below hb2)
 have HW2 := Lib.hid (HW1.out.trans (hb2.mono HW1.out.size))
 have HPB : Hid (w.heap.size + 1 ≤ b ∧ w.heap.size + 1 ≤ m) := ⟨by have := hpl.ne.2.2.2.1; omega, by have := hpl.ne.2.2.2.2; omega⟩
 obtain ⟨t0, t1, t2, t3, t4, t5⟩ := HBX.out.cells
 simp only at t0 t1 t2 t3 t4 t5
 clear hpl hb2
 have HQ := Lib.hid (show endsL (L s) (d + 1) (.mk 7 c1 c2 c3 c4 l) fr = fr.foldl (fun o i => addL o (sglL (L s) 7 (l.map fun a => endsL (L s) d a [i]) i)) [] from by simp [endsL, HFR.out])
 have HSG := Lib.hid (fun (i : Nat) w' hp hi => single_op7 s d hs IH c1 c2 c3 c4 l ⟨7, c1, c2, c3, c4, .slice la l.length lcap⟩ i w' hp HSN.out hi)
 have HZ := Lib.hid hz1
 clear hz1 t0 t1 t2 t3 t4 t5 IH hne hm0
 obtain ⟨t0, -, -, -, -, -⟩ := HBX.out.cells
 simp only at t0
 go_wp2_with fail
 go_loopw [15, 98] (fun _ iv wr => ∃ (k : Nat) (lv : Value), k ≤ fr.length ∧ iv = .int .i64 (k : Int) ∧ Hid (Pl w1.heap.size b (s.size + 1) m lv ((fr.take k).foldl (fun o i => addL o (sglL (L s) 7 (l.map fun a => endsL (L s) d a [i]) i)) []) wr) ∧ Hid (Below w.heap.size w wr) ∧ Hid (BoxP w.heap.size ⟨7, c1, c2, c3, c4, .slice la l.length lcap⟩ wr)) (fun _ iv _ => fr.length - (intOf iv).toNat)
 case atStart => exact ⟨0, _, Nat.zero_le _, rfl, by rw [List.take_zero]; exact HPL.out, HW2.out, HBX.out⟩
 case round =>
  clear HPL HBX HW2 t0
  obtain ⟨k, lv, hk, rfl, HPL, HWR, HBX⟩ := hrel
  by_cases hlt : k < fr.length
  case neg =>
   have hge : ¬ (k : Int) < fn := by have := HFN.out; omega
   have HPQ : Hid (Pl w1.heap.size b (s.size + 1) m lv (fr.foldl (fun o i => addL o (sglL (L s) 7 (l.map fun a => endsL (L s) d a [i]) i)) []) wr) := by
    have := HPL.out
    rw [List.take_of_length_le (by omega)] at this
    exact this
   obtain ⟨p0, p1⟩ := HPQ.out.cells
   clear hlt
   go_wp2_with fail
   go_ret
   rw [HQ.out]
   exact HPQ.out.endP (by have := HZ.out; omega) HWR.out
  case pos =>
   have hlti : (k : Int) < fn := by have := HFN.out; omega
   obtain ⟨g, o, rfl, hck⟩ := HV.out.at HWR.out k hlt
   have HX : Hid (fr[k] ≤ s.size) := HB.out _ (List.getElem_mem hlt)
   have HTK : Hid ((fr.take (k + 1)).foldl (fun o i => addL o (sglL (L s) 7 (l.map fun a => endsL (L s) d a [i]) i)) [] = addL ((fr.take k).foldl (fun o i => addL o (sglL (L s) 7 (l.map fun a => endsL (L s) d a [i]) i)) []) (sglL (L s) 7 (l.map fun a => endsL (L s) d a [fr[k]]) fr[k])) := by
    unfold Hid
    rw [List.take_succ_eq_append_getElem hlt, List.foldl_append]
    rfl
   have HCUR : Hid (((fr.take k).foldl (fun o i => addL o (sglL (L s) 7 (l.map fun a => endsL (L s) d a [i]) i)) []).Nodup ∧ ∀ x ∈ ((fr.take k).foldl (fun o i => addL o (sglL (L s) 7 (l.map fun a => endsL (L s) d a [i]) i)) []), x < s.size + 1) := by
    refine ⟨foldl_addL_nodup _ _ _ (by simp), fun x hx => ?_⟩
    rcases (foldl_addA (fun i => sglL (L s) 7 (l.map fun a => endsL (L s) d a [i]) i) _ _ _).1 hx with h | ⟨a, ha, h⟩
    ·cases h
    ·exact (sgl_bd s 7 _ a).2 x h
   generalize (fr.take k).foldl (fun o i => addL o (sglL (L s) 7 (l.map fun a => endsL (L s) d a [i]) i)) [] = cur at *
   generalize fr[k] = i at *
   obtain ⟨t0, t1, t2, t3, t4, t5⟩ := HBX.out.cells
   simp only at t0 t1 t2 t3 t4 t5
   have HC := Lib.hid (HSG.out i wr (HP.out.stays HWR.out) HX.out)
   have HEB := Lib.hid (sgl_bd s 7 (l.map fun a => endsL (L s) d a [i]) i)
   generalize sglL (L s) 7 (l.map fun a => endsL (L s) d a [i]) i = E at *
   go_wp2_with fail
   refine HC.out.mono ?_
   rintro e w6 ⟨v6, rfl, hv6, hb6⟩
   obtain ⟨a6, cap6, rfl, -⟩ := hv6.form
   have HV6 := Lib.hid (hv6.mono (M := fun x => ¬ PlB b m lv x) (fun x h hl he => by
    have h1 := HPL.out.lt
    rcases h with h | h
    ·exact h
    rcases he with he | he | he
    ·omega
    ·omega
    ·have := HPL.out.own.lt _ he
     omega))
   have HP6 := Lib.hid (HPL.out.stay hb6)
   have HW6 := Lib.hid (HWR.out.trans (hb6.mono HWR.out.size))
   have HB6 := Lib.hid (HBX.out.below hb6)
   clear hv6 hb6 HC t0 t1 t2 t3 t4 t5 HPL HWR HBX
   go_wp2_with fail
   refine (add_any w1.heap.size b (s.size + 1) m lv _ cur _ w6 HP6.out (by omega) HCUR.out.1 HCUR.out.2 HV6.out (fun x hx => HEB.out.2 x hx)).mono ?_
   rintro e w7 ⟨rfl, lv7, hp7, hb7, hk7, -, -⟩
   have HP7 := Lib.hid hp7
   have HB7 := Lib.hid (show BoxP w.heap.size ⟨7, c1, c2, c3, c4, .slice la l.length lcap⟩ w7 from (hk7 _ (fun he => by
    have h1 := HPB.out
    rcases he with he | he | he
    ·omega
    ·omega
    ·have := (HP6.out.own.lt _ he).1
     have := HZ.out
     omega) HB6.out.lt).trans HB6.out)
   have HW7 := Lib.hid (below_add HW6.out hb7 (by have := HZ.out; omega))
   clear hp7 hb7 hk7
   go_wp2_with fail
   exact ⟨⟨k + 1, lv7, by omega, rfl, by rw [HTK.out]; exact HP7.out, HW7.out, HB7.out⟩, by simp [intOf]; omega⟩
end Go.Proofs.YtpkecepelcppiaaGreatDoor
