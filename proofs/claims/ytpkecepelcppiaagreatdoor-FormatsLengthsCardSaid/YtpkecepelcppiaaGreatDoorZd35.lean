/- regex.cat, alt, and walked; printed by gen_ryb.py. Conditions: fewer than 10^8 parts. -/
import Derived.Test.YtpkecepelcppiaaGreatDoorZd33
import Derived.Laws.AppendOwnNone
import Derived.Test.YtpkecepelcppiaaGreatDoorZd16
import Derived.Test.YtpkecepelcppiaaGreatDoorZd31
import Derived.Test.YtpkecepelcppiaaGreatDoorZd21
namespace Go.Proofs.YtpkecepelcppiaaGreatDoor
open Go.RowKit Go.Shelf
set_option maxHeartbeats 4000000
set_option maxRecDepth 100000

theorem repN_succ (f : List Nat → List Nat) : ∀ (n : Nat) (l : List Nat), repN f (n + 1) l = f (repN f n l)
 | 0, l => rfl
 | n + 1, l => by
  rw [repN, repN_succ f n (f l)]
  rfl
def lenV : Value → Nat
 | .slice _ n _ => n
 | _ => 0
def repG (b N : Nat) (fv : Value) (w : World) : Nat := if lenV fv = 0 then 0 else N + 1 - (match w.cell? ⟨b, 1, none⟩ with | some v => lenV v | none => 0)
theorem own_len {w : World} {B : Nat} {v : Value} {l : List Nat} (h : w.ownsRow B 3 1 v l.length (l.map iv)) : ∃ a cap, v = .slice a l.length cap ∧ l.length ≤ cap ∧ cap ≤ maxLen ∧ (a = none → cap = 0) ∧ ∀ ad, a = some ad → ∃ g, ad = ⟨g, 0, none⟩ ∧ v.ownBlock = some g ∧ ∀ i (hi : i < l.length), w.cell? ⟨g, i, none⟩ = some (iv l[i]) := by
 rcases h.2 with ⟨rfl, h0⟩ | ⟨g, cap, cur, rfl, hb, hg, h1, h2, h3, h4⟩
 ·obtain rfl := List.eq_nil_of_length_eq_zero h0
  exact ⟨none, 0, rfl, Nat.le_refl _, Nat.zero_le _, fun _ => rfl, fun _ h => by cases h⟩
 ·refine ⟨some ⟨g, 0, none⟩, cap, rfl, h1, h2, (fun h => by cases h), fun ad hh => ⟨g, by cases hh; rfl, rfl, fun i hi => ?_⟩⟩
  have := h.cells (g := g) rfl i (iv l[i]) (by rw [List.getElem?_map, List.getElem?_eq_getElem hi]; rfl)
  have hadd : (⟨g, 0, none⟩ : Addr).add i = ⟨g, 0 + i, none⟩ := by unfold Addr.add; split <;> simp_all
  rw [hadd, Nat.zero_add] at this
  exact this
theorem repL_stop {f : List Nat → List Nat} {fuel : Nat} {left : Option Nat} {out fr : List Nat} (h : fr = [] ∨ left = some 0) : repL f fuel left out fr = out := by
 cases fuel with
 | zero => rfl
 | succ n => rw [repL, if_pos h]
theorem repL_go {f : List Nat → List Nat} {fuel : Nat} {left : Option Nat} {out fr : List Nat} (h : ¬ (fr = [] ∨ left = some 0)) : repL f (fuel + 1) left out fr = repL f fuel (left.map (· - 1)) (addL out (f fr)) ((addL out (f fr)).drop out.length) := by
 rw [repL, if_neg h]
def leftI (mx n : Int) : Option Nat := if mx < 0 then none else some (mx - n).toNat
theorem leftI_step (mx n : Int) : (leftI mx n).map (· - 1) = leftI mx (n + 1) := by
 unfold leftI
 split
 ·rfl
 ·rw [Option.map_some]
  congr 1
  omega
theorem wp_copyI {ops : Array Oper} {rest : List Oper} {o : Oper} {a : Act} {w1 : World} {Q : Exit → Act → World → Prop} (s y : Operand) (l : List Nat) (v : Value)
  (hgd : o.guard = none) (ho : o.op = .call { callee := .builtin .append, args := #[s, y], argTypes := #[82, 82] })
  (hs : a.eval s = .slice none 0 0) (hy : a.eval y = v) (hv : ∃ ad m c, v = .slice ad m c ∧ m = l.length ∧ (ad = none → m = 0 ∧ c = 0) ∧ ∀ g, ad = some g → ∀ j u, (l.map iv)[j]? = some u → w1.cell? (g.add j) = some u) (hn : l.length < 1000000000)
  (h : ∀ v' w', w'.ownsRow w1.heap.size 3 1 v' l.length (l.map iv) → Below w1.heap.size w1 w' → (∃ A cap, v' = .slice A l.length cap) → wpList Tryz.prog ops Q rest (a.put o.dst v') w') :
  wpList Tryz.prog ops Q (o :: rest) a w1 := by
 obtain ⟨ad, m, c, rfl, rfl, h0, h1⟩ := hv
 obtain ⟨ht, hsz, i, z, hi, hz, hsi, hby, hzs⟩ := elemI
 cases ad with
 | none =>
  obtain ⟨e1, rfl⟩ := h0 rfl
  obtain rfl := List.eq_nil_of_length_eq_zero e1
  exact wpList_append_own_none hgd s y _ ho w1.heap.size _ i 1 ht hi (.slice none 0 0) 0 [] hs (World.ownsRow_nil _ _ _ 1) hy (h _ _ (World.ownsRow_nil _ _ _ 1) (Below.refl _ _) ⟨none, 0, rfl⟩)
 | some g =>
  refine wpList_append_own_at _ hgd s y _ ho w1.heap.size _ i z 1 i.bytes ht hi hz hsi rfl hzs hsz (.slice none 0 0) 0 [] hs (World.ownsRow_nil _ _ _ 1) g l.length c (l.map iv) hy (by rw [List.length_map, Nat.mul_one]) (h1 g rfl) ?_ (by simp only [maxLen]; omega) (Nat.le_trans (Nat.mul_le_mul (show 0 + l.length ≤ 1000000000 by omega) hby) (by decide)) (Nat.le_refl _) ?_
  ·intro u hu
   obtain ⟨x, _, rfl⟩ := List.mem_map.1 hu
   rfl
  ·intro v' w' hown' hg _ hat
   rw [Nat.zero_add, List.nil_append] at hown'
   refine h v' w' hown' ⟨hg.os, hg.tape, hg.output, hg.size, fun x hx => hg.block x hx (by rintro ⟨⟩)⟩ ?_
   obtain ⟨A, cap, hv, -⟩ := own_len hown'
   exact ⟨A, cap, hv⟩
theorem repeated_any (s : ByteArray) (d : Nat) (hs : s.size ≤ 1000000) (IH : EndsC s d) (N : Nat → Prop) (lo hi mn mx : Int) (q : RX) (c : PC) (v : Value) (fr : List Nat) (w : World) (hp : RdP w c (.mk 5 lo hi mn mx [q])) (hsq : sndR d q = true) (hmn : 0 ≤ mn ∧ mn ≤ 64) (hmx : mx = -1 ∨ (mn ≤ mx ∧ mx ≤ 64))
  (hv : RdN N w v fr) (hnd : fr.Nodup) (hb : ∀ x ∈ fr, x ≤ s.size) :
  Calls Tryz.prog 86 #[aggP c, .string s, v] w (EndP N (repE s.size (endsL (L s) d) mn mx [q] fr) w) := by
 obtain ⟨n, rfl⟩ : ∃ n : Nat, mn = n := ⟨mn.toNat, by omega⟩
 have HP := Lib.hid hp
 have HV := Lib.hid hv
 have HND := Lib.hid hnd
 have HB := Lib.hid hb
 have HSQ := Lib.hid hsq
 have HIH := Lib.hid IH
 have HF := Lib.hid (show Finds s.size (endsL (L s) d q) (memR (L s) d q) from by have := ends_finds (L s) d q hsq; rw [L_len] at this; exact this)
 obtain ⟨fa, fcap, hfv, f1, f2, -⟩ := hv.form
 obtain ⟨la, lcap, hla⟩ := hp.forms
 have hop : c.op = 5 ∧ c.lo = lo ∧ c.hi = hi ∧ c.mn = n ∧ c.mx = mx := by cases hp; exact ⟨rfl, rfl, rfl, rfl, rfl⟩
 obtain ⟨c0, c1, c2, c3, c4, c5⟩ := c
 simp only at hop hla
 obtain ⟨rfl, rfl, rfl, rfl, rfl⟩ := hop
 rw [show (RX.mk 5 c1 c2 n c4 [q]).args.length = 1 from rfl] at hla
 subst hla
 obtain ⟨fn, hfn⟩ : ∃ fn, fn = fr.length := ⟨_, rfl⟩
 rw [← hfn] at hfv
 subst hfv
 have HFN := Lib.hid hfn
 have hn64 : (n : Int) ≤ 64 := hmn.2
 have HMX := Lib.hid hmx
 have HQ : Hid (repE s.size (endsL (L s) d) n c4 [q] fr = repL (endsL (L s) d q) (s.size + 2) (leftI c4 n) (addL [] (repN (endsL (L s) d q) n fr)) (repN (endsL (L s) d q) n fr)) := by
  unfold Hid repE leftI
  rw [Int.toNat_natCast]
 generalize repE s.size (endsL (L s) d) n c4 [q] fr = R at *
 simp only [aggP]
 clear hp hv hnd hb IH hsq f1 f2 hfn hmn hmx
 go_enter Tryz.func86, Tryz.ntmps86
 go_upto_region 1 with fail
 generalize hW : World.alloc w _ = w1
 obtain ⟨ha, -, hz1, hb1⟩ := alloc_of hW
 have HBX := Lib.hid (show BoxP w.heap.size ⟨5, c1, c2, n, c4, .slice la 1 lcap⟩ w1 from ha)
 have HW1 := Lib.hid hb1
 have HZ := Lib.hid hz1
 clear hW ha hb1 hz1
 obtain ⟨t0, t1, t2, t3, t4, t5⟩ := HBX.out.cells
 simp only at t0 t1 t2 t3 t4 t5
 go_wp2_with fail
 go_loopw [2, 12] (fun fv iv wr => ∃ (k : Nat) (a : Option Addr) (fl cap : Nat), k ≤ n ∧ iv = .int .i64 (k : Int) ∧ fv = .slice a fl cap ∧ Hid (RdN (fun g => N g ∨ w.heap.size ≤ g) wr (.slice a fl cap) (repN (endsL (L s) d q) k fr)) ∧ Hid (Below w.heap.size w wr) ∧ Hid (BoxP w.heap.size ⟨5, c1, c2, n, c4, .slice la 1 lcap⟩ wr)) (fun _ iv _ => n - (intOf iv).toNat)
 case atStart => exact ⟨0, fa, fn, fcap, Nat.zero_le _, rfl, rfl, (HV.out.stay HW1.out).mono (fun g h _ => .inl h), HW1.out, HBX.out⟩
 case round =>
  clear HBX t0 t1 t2 t3 t4 t5
  obtain ⟨k, ra, fl, rcap, hk, rfl, rfl, HRF, HWR, HBX⟩ := hrel
  obtain ⟨t0, t1, t2, t3, t4, t5⟩ := HBX.out.cells
  simp only at t0 t1 t2 t3 t4 t5
  have HKN := Lib.hid (show (repN (endsL (L s) d q) k fr).Nodup ∧ ∀ x ∈ repN (endsL (L s) d q) k fr, x ≤ s.size from ⟨(repN_finds HF.out k).nod fr HND.out HB.out, (repN_finds HF.out k).bd HND.out HB.out⟩)
  by_cases hlt : k < n
  case pos =>
   have hlti : (k : Int) < n := by omega
   obtain ⟨g, o, c, rfl, hc6, hrd⟩ := HP.out.part HWR.out 0 (by simp)
   have HTK := Lib.hid (repN_succ (endsL (L s) d q) k fr)
   have HRD := Lib.hid (show RdP wr c q from hrd)
   generalize repN (endsL (L s) d q) k fr = cur at *
   obtain ⟨pa, pcap, hpa⟩ := HRD.out.forms
   generalize q.args.length = pn at *
   obtain ⟨p0, p1, p2, p3, p4, p5⟩ := c
   simp only at hpa
   subst hpa
   obtain ⟨b0, b1, b2, b3, b4, b5⟩ := cells6 hc6
   simp only [Nat.zero_mul, Nat.add_zero] at b0 b1 b2 b3 b4 b5
   have HC := Lib.hid (HIH.out _ q ⟨p0, p1, p2, p3, p4, .slice pa pn pcap⟩ (.slice ra fl rcap) cur wr HRD.out HSQ.out HRF.out HKN.out.1 HKN.out.2)
   clear hc6 hrd
   go_wp2_with fail
   refine HC.out.mono ?_
   rintro e w6 ⟨v6, rfl, hv6, hb6⟩
   obtain ⟨a6, cap6, rfl, -⟩ := hv6.form
   have HV6 := Lib.hid (hv6.mono (M := fun g => N g ∨ w.heap.size ≤ g) (fun x h _ => by
    rcases h with h | h
    ·exact h
    ·exact .inr (Nat.le_trans HWR.out.size h)))
   have HW6 := Lib.hid (HWR.out.trans (hb6.mono HWR.out.size))
   have HB6 := Lib.hid (HBX.out.below hb6)
   clear hv6 hb6 HC b0 b1 b2 b3 b4 b5
   go_wp2_with fail
   exact ⟨⟨k + 1, a6, _, cap6, by omega, rfl, rfl, by rw [HTK.out]; exact HV6.out, HW6.out, HB6.out⟩, by simp [intOf]; omega⟩
  case neg =>
   have hge : ¬ (k : Int) < n := by omega
   obtain rfl : k = n := by omega
   generalize repN (endsL (L s) d q) k fr = cur at *
   clear hlt hk
   have HNP := Lib.hid (newPlaces_any s wr (by omega))
   go_wp2_with fail
   refine HNP.out.mono ?_
   rintro e w3 ⟨b, m, rfl, hpl, hb3⟩
   have HPL := Lib.hid hpl
   have HPB : Hid (w.heap.size + 1 ≤ b ∧ w.heap.size + 1 ≤ m ∧ w.heap.size + 1 ≤ wr.heap.size) := ⟨by have := hpl.ne.2.2.2.1; have := HBX.out.lt; omega, by have := hpl.ne.2.2.2.2; have := HBX.out.lt; omega, HBX.out.lt⟩
   have HW3 := Lib.hid (HWR.out.trans (hb3.mono HWR.out.size))
   have HB3 := Lib.hid (HBX.out.below hb3)
   have HV3 := Lib.hid ((HRF.out.mono (M := fun x => ¬ PlB b m (.slice none 0 0) x) (fun x _ hl he => by
    rcases he with he | he | he
    ·have := hpl.ne.2.2.2.1; omega
    ·have := hpl.ne.2.2.2.2; omega
    ·cases he)).stay hb3)
   clear hpl hb3 HNP HWR HBX HRF t0 t1 t2 t3 t4 t5
   go_wp2_with fail
   refine (add_any wr.heap.size b (s.size + 1) m _ _ [] cur w3 HPL.out (by omega) (by simp) (fun x hx => by cases hx) HV3.out (fun x hx => by have := HKN.out.2 x hx; omega)).mono ?_
   rintro e w4 ⟨rfl, lv4, hp4, hb4, hk4, hs4, hat4⟩
   have HP4 := Lib.hid hp4
   have HW4 := Lib.hid (below_add HW3.out hb4 (by have := HPB.out; omega))
   have HB4 := Lib.hid (show BoxP w.heap.size ⟨5, c1, c2, k, c4, .slice la 1 lcap⟩ w4 from (hk4 _ (fun he => by
    have h1 := HPB.out
    rcases he with he | he | he
    ·omega
    ·omega
    ·cases he) HB3.out.lt).trans HB3.out)
   have HV4 := Lib.hid (((HV3.out.mono (M := fun x => ¬ PlB b m (.slice none 0 0) x ∧ ¬ PlB b m lv4 x) (fun x h hl => ⟨h, fun he => by
    rcases he with he | he | he
    ·exact h (.inl he)
    ·exact h (.inr (.inl he))
    ·rcases hat4 with h4 | ⟨y, hy, h4⟩
     ·rw [h4] at he
      exact h (.inr (.inr he))
     ·rw [h4] at he
      cases he
      omega⟩)).keep (w' := w4) (fun x hx hl => hk4 x hx.1 hl)).mono (M := fun x => ¬ PlB b m lv4 x) (fun x h _ => h.2))
   have HCB := Lib.hid (show (addL [] cur).Nodup ∧ ∀ x ∈ addL [] cur, x < s.size + 1 from ⟨addL_nodup _ _ (by simp), addL_bound _ _ (fun x hx => by cases hx) (fun x hx => by have := HKN.out.2 x hx; omega)⟩)
   clear hp4 hb4 hk4 hs4 hat4 HPL HW3 HB3 HV3
   obtain ⟨t0, t1, t2, t3, t4, t5⟩ := HB4.out.cells
   simp only at t0 t1 t2 t3 t4 t5
   generalize hB0 : wr.heap.size = B0 at *
   clear hB0
   go_wp2_with fail
   go_loopw [2, 8, 9] (fun fv nv _ wx => ∃ (a : Option Addr) (fl cap fuel : Nat) (j : Int) (lv : Value) (out fr2 : List Nat), fv = .slice a fl cap ∧ nv = .int .i64 j ∧ Hid ((k : Int) ≤ j ∧ j + fuel = k + s.size + 2) ∧ Hid (fl = fr2.length) ∧ Hid (RdN (fun x => ¬ PlB b m lv x) wx (.slice a fl cap) fr2) ∧ Hid (Pl B0 b (s.size + 1) m lv out wx) ∧ Hid (BoxP w.heap.size ⟨5, c1, c2, k, c4, .slice la 1 lcap⟩ wx) ∧ Hid (Below w.heap.size w wx)
    ∧ Hid (R = repL (endsL (L s) d q) fuel (leftI c4 j) out fr2 ∧ (fr2 = [] ∨ s.size + 2 ≤ fuel + out.length)) ∧ Hid ((out.Nodup ∧ ∀ x ∈ out, x < s.size + 1) ∧ fr2.Nodup ∧ ∀ x ∈ fr2, x ≤ s.size)) (fun fv _ _ wx => repG b (s.size + 1) fv wx)
   case atStart =>
    obtain ⟨_, _, he, _⟩ := HV4.out.form
    cases he
    exact ⟨ra, _, rcap, s.size + 2, k, lv4, _, cur, rfl, rfl, ⟨by omega, by omega⟩, rfl, HV4.out, HP4.out, HB4.out, HW4.out, ⟨HQ.out, .inr (Nat.le_add_right _ _)⟩, HCB.out, HKN.out⟩
   case round =>
    clear HV4 HP4 HB4 HW4 HCB t0 t1 t2 t3 t4 t5 HQ
    obtain ⟨a, fl, fcp, fuel, j, lv, out, fr2, rfl, rfl, HJ, HFL, HV, HPL, HBX, HWR, HR, HCB⟩ := hrel
    obtain ⟨t0, t1, t2, t3, t4, t5⟩ := HBX.out.cells
    obtain ⟨p0, p1⟩ := HPL.out.cells
    simp only at t0 t1 t2 t3 t4 t5
    have hj0 : (0 : Int) ≤ j := by have := HJ.out; omega
    have hj9 : j ≤ 2000000 := by have := HJ.out; omega
    have hfl : (fl : Int) ≤ 9223372036854775807 := by
     obtain ⟨_, _, he, h1, h2, _⟩ := HV.out.form
     cases he
     have := HFL.out
     simp only [maxLen] at h2
     omega
    by_cases hgo : fr2 = [] ∨ leftI c4 j = some 0
    case pos =>
     have HRO : Hid (R = out) := HR.out.1.trans (repL_stop hgo)
     by_cases h0 : fl = 0
     ·have e1 : ¬ (0 : Int) < fl := by omega
      clear h0 hgo
      go_wp2_with fail
      go_ret
      rw [HRO.out]
      exact HPL.out.endP (by have := HPB.out; omega) HWR.out
     ·have e1 : (0 : Int) < fl := by omega
      have hl : leftI c4 j = some 0 := by
       rcases hgo with h | h
       ·exact absurd (by rw [HFL.out, h]; rfl) h0
       ·exact h
      have e2 : ¬ c4 < 0 ∧ ¬ j < c4 := by
       unfold leftI at hl
       split at hl
       ·cases hl
       ·rename_i h
        refine ⟨h, ?_⟩
        simp only [Option.some.injEq] at hl
        omega
      obtain ⟨e2, e3⟩ := e2
      clear h0 hgo hl
      go_wp2_with fail
      go_ret
      rw [HRO.out]
      exact HPL.out.endP (by have := HPB.out; omega) HWR.out
    case neg =>
     have hne : fr2 ≠ [] := fun h => hgo (.inl h)
     have hfu : ∃ f, fuel = f + 1 := by
      have h1 := HR.out.2
      have h2 := len_lt HCB.out.1.1 HCB.out.1.2
      rcases h1 with h1 | h1
      ·exact absurd h1 hne
      ·exact ⟨fuel - 1, by omega⟩
     obtain ⟨f, rfl⟩ := hfu
     have HRN : Hid (R = repL (endsL (L s) d q) f (leftI c4 (j + 1)) (addL out (endsL (L s) d q fr2)) ((addL out (endsL (L s) d q fr2)).drop out.length)) := by
      unfold Hid
      rw [HR.out.1, repL_go hgo, leftI_step]
     have e1 : (0 : Int) < fl := by
      have := HFL.out
      cases fr2 with
      | nil => exact absurd rfl hne
      | cons x t => simp only [List.length_cons] at this; omega
     have e2 : c4 < 0 ∨ j < c4 := by
      by_cases h : c4 < 0
      ·exact .inl h
      ·refine .inr ?_
       by_cases h2 : j < c4
       ·exact h2
       ·exact absurd (.inr (by unfold leftI; rw [if_neg h]; congr 1; omega)) hgo
     have HG := Lib.hid hne
     clear hgo hne
     go_upto_region 8 with fail
     go_cut [42] (fun v wx => v = .bool true ∧ wr = wx)
     case first =>
      rcases e2 with e2 | e2
      ·go_wp2_with fail
       go_meet
       all_goals exact ⟨rfl, rfl⟩
      ·by_cases e3 : c4 < 0
       ·omega
       ·go_wp2_with fail
        go_meet
        all_goals exact ⟨rfl, rfl⟩
     case rest =>
      obtain ⟨rfl, hwx⟩ := hcut
      subst hwx
      clear e2
      obtain ⟨oa, ocap, hlv, o1, o2, o3, -⟩ := own_len HPL.out.own
      obtain ⟨on, hon⟩ : ∃ on, on = out.length := ⟨_, rfl⟩
      rw [← hon] at hlv
      subst hlv
      have HON := Lib.hid hon
      obtain ⟨g, o, c, rfl, hc6, hrd⟩ := HP.out.part HWR.out 0 (by simp)
      have HRD := Lib.hid (show RdP wr c q from hrd)
      obtain ⟨pa, pcap, hpa⟩ := HRD.out.forms
      generalize q.args.length = pn at *
      obtain ⟨p0', p1', p2', p3', p4', p5'⟩ := c
      simp only at hpa
      subst hpa
      obtain ⟨b0, b1, b2, b3, b4, b5⟩ := cells6 hc6
      simp only [Nat.zero_mul, Nat.add_zero] at b0 b1 b2 b3 b4 b5
      have HC := Lib.hid (HIH.out _ q ⟨p0', p1', p2', p3', p4', .slice pa pn pcap⟩ (.slice a fl fcp) fr2 wr HRD.out HSQ.out HV.out HCB.out.2.1 HCB.out.2.2)
      have HEN := Lib.hid (ends_bd s d q fr2 HSQ.out HCB.out.2.1 HCB.out.2.2)
      generalize endsL (L s) d q fr2 = E at *
      have HG0 : Hid (repG b (s.size + 1) (.slice a fl fcp) wr = s.size + 1 + 1 - on) := by
       unfold Hid repG
       rw [if_neg (by show ¬ fl = 0; omega), p1]
       rfl
      have hol : (on : Int) ≤ 9223372036854775807 := by
       simp only [maxLen] at o2
       omega
      clear hc6 hrd o1 o2 o3 hon
      go_wp2_with fail
      refine HC.out.mono ?_
      rintro e w6 ⟨v6, rfl, hv6, hb6⟩
      obtain ⟨a6, cap6, rfl, -⟩ := hv6.form
      have HV6 := Lib.hid (hv6.mono (M := fun x => ¬ PlB b m (.slice oa on ocap) x) (fun x h hl he => by
       rcases h with h | h
       ·exact h he
       ·have h1 := HPL.out.lt
        rcases he with he | he | he
        ·omega
        ·omega
        ·have := (HPL.out.own.lt _ he).2
         omega))
      have HP6 := Lib.hid (HPL.out.stay hb6)
      have HW6 := Lib.hid (HWR.out.trans (hb6.mono HWR.out.size))
      have HB6 := Lib.hid (HBX.out.below hb6)
      clear hv6 hb6 HC b0 b1 b2 b3 b4 b5 t0 t1 t2 t3 t4 t5 HPL HBX HWR HRD HV p0 p1
      go_wp2_with fail
      refine (add_any B0 b (s.size + 1) m _ _ out E w6 HP6.out (by omega) HCB.out.1.1 HCB.out.1.2 HV6.out (fun x hx => by have := HEN.out.2 x hx; omega)).mono ?_
      rintro e w7 ⟨rfl, lv7, hp7, hb7, hk7, hs7, hat7⟩
      have HP7 := Lib.hid hp7
      have HW7 := Lib.hid (below_add HW6.out hb7 (by have := HPB.out; omega))
      have HB7 := Lib.hid (show BoxP w.heap.size ⟨5, c1, c2, k, c4, .slice (some ⟨g, o, none⟩) 1 lcap⟩ w7 from (hk7 _ (fun he => by
       have h1 := HPB.out
       rcases he with he | he | he
       ·omega
       ·omega
       ·have := (HP6.out.own.lt _ he).1
        omega) HB6.out.lt).trans HB6.out)
      have HCC := Lib.hid (show (addL out E).Nodup ∧ ∀ x ∈ addL out E, x < s.size + 1 from ⟨addL_nodup _ _ HCB.out.1.1, addL_bound _ _ HCB.out.1.2 (fun x hx => by have := HEN.out.2 x hx; omega)⟩)
      have HPRE := Lib.hid (addL_pre E out)
      have HNEW := Lib.hid (addL_new E out HCB.out.1.1)
      clear hp7 hb7 hk7 hs7 hat7 HP6 HW6 HB6 HV6
      generalize addL out E = out2 at *
      have HLE : Hid (on ≤ out2.length) := by
       obtain ⟨nn, h⟩ := HPRE.out
       unfold Hid
       rw [h, HON.out, List.length_append]
       omega
      obtain ⟨oa2, ocap2, hlv, o1, o2, o3, o4⟩ := own_len HP7.out.own
      obtain ⟨on2, hon2⟩ : ∃ on, on = out2.length := ⟨_, rfl⟩
      rw [← hon2] at hlv o1
      subst hlv
      obtain ⟨p0, p1⟩ := HP7.out.cells
      have q1 : (on : Int) ≤ (on2 : Int) := by have := HLE.out; omega
      have q2 : (on2 : Int) ≤ (ocap2 : Int) := by omega
      have q3 : (ocap2 : Int) ≤ 9223372036854775807 := by simp only [maxLen] at o2; omega
      have q4 : (on : Int) ≤ (ocap2 : Int) := by omega
      have HDR := Lib.hid (List.length_drop (i := out.length) (l := out2))
      have HQ4 : Hid ((out2.drop out.length).length < 1000000000) := by
       unfold Hid
       have h1 := len_lt HCC.out.1 HCC.out.2
       rw [List.length_drop]
       omega
      have HO2 := Lib.hid hon2
      go_upto_region 12 with fail
      cases oa2 with
      | none =>
       have hc0 : ocap2 = 0 := o3 rfl
       have hn0 : out2.length = 0 := by omega
       have hn1 : on = 0 := by omega
       subst hc0 hn1
       obtain rfl : out2 = [] := List.eq_nil_of_length_eq_zero hn0
       clear o3 o4 hn0
       have hz1 : ([] : List Nat).length = 0 := rfl
       have HQ5 : Hid (0 = (([] : List Nat).drop out.length).length) := by unfold Hid; simp
       have HQ6 : Hid ((none : Option Addr) = none → 0 = 0 ∧ 0 = 0) := fun _ => ⟨rfl, rfl⟩
       have HQ7 : Hid (∀ g : Addr, (none : Option Addr) = some g → ∀ (j : Nat) (u : Value), ((([] : List Nat).drop out.length).map iv)[j]? = some u → w7.cell? (g.add j) = some u) := fun _ h => by cases h
       go_wp2_with (at_builtin; refine wp_copyI _ _ (([] : List Nat).drop out.length) _ rfl rfl rfl rfl ⟨_, _, _, rfl, HQ5.out, HQ6.out, HQ7.out⟩ HQ4.out ?_; intro v8 w8 hown8 hb8 hfm8)
       obtain ⟨A8, cap8, rfl⟩ := hfm8
       have h9 := HDR.out
       refine ⟨⟨A8, _, cap8, f, j + 1, _, ([] : List Nat), _, rfl, rfl, ⟨by have := HJ.out; omega, by have := HJ.out; omega⟩, rfl, (own_rdN hown8).mono (fun x hx hl he => ?_), HP7.out.stay hb8, HB7.out.below hb8, HW7.out.trans (hb8.mono HW7.out.size), ⟨HRN.out, ?_⟩, HCC.out, HNEW.out.1, fun x hx => ?_⟩, ?_⟩
       ·have h1 := HP7.out.lt
        have h2 := (hown8.lt x hx).1
        rcases he with he | he | he
        ·omega
        ·omega
        ·have := (HP7.out.own.lt x he).2
         omega
       ·rcases Nat.eq_zero_or_pos (([] : List Nat).drop out.length).length with h | h
        ·exact .inl (List.eq_nil_of_length_eq_zero h)
        ·refine .inr ?_
         rcases HR.out.2 with h2 | h2
         ·exact absurd h2 HG.out
         ·rw [List.length_drop] at h
          omega
       ·have := HCC.out.2 x (List.mem_of_mem_drop hx)
        omega
       ·rw [HG0.out]
        unfold repG
        have h1 := len_lt HCB.out.1.1 HCB.out.1.2
        have h2 := HON.out
        rw [show lenV (.slice A8 (([] : List Nat).drop out.length).length cap8) = (([] : List Nat).drop out.length).length from rfl]
        by_cases h : (([] : List Nat).drop out.length).length = 0
        ·rw [if_pos h]
         omega
        ·rw [if_neg h, (HP7.out.stay hb8).cells.2]
         rw [List.length_drop] at h
         have h5 : ∀ (A : Option Addr) (n c : Nat), lenV (.slice A n c) = n := fun _ _ _ => rfl
         simp only [h5]
         omega
      | some ad =>
       obtain ⟨g2, rfl, hob, hat⟩ := o4 ad rfl
       have HAT := Lib.hid hat
       clear o4 hat
       have HQ1 : Hid (out2.length - on = (out2.drop out.length).length) := by unfold Hid; rw [List.length_drop, HON.out]
       by_cases hcap : on = ocap2
       ·have hz : out2.length = on := by omega
        have HQ3 : Hid (∀ g : Addr, some (⟨g2, 0, none⟩ : Addr) = some g → ∀ (j : Nat) (u : Value), ((out2.drop out.length).map iv)[j]? = some u → w7.cell? (g.add j) = some u) := by
         intro g h j u hu
         rw [List.drop_of_length_le (by have := HON.out; omega)] at hu
         cases hu
        subst hcap
        clear hz
        go_wp2_with (at_builtin; refine wp_copyI _ _ (out2.drop out.length) _ rfl rfl rfl rfl ⟨_, _, _, rfl, HQ1.out, (fun h => by cases h), HQ3.out⟩ HQ4.out ?_; intro v8 w8 hown8 hb8 hfm8)
        obtain ⟨A8, cap8, rfl⟩ := hfm8
        have h9 := HDR.out
        refine ⟨⟨A8, _, cap8, f, j + 1, _, out2, _, rfl, rfl, ⟨by have := HJ.out; omega, by have := HJ.out; omega⟩, rfl, (own_rdN hown8).mono (fun x hx hl he => ?_), HP7.out.stay hb8, HB7.out.below hb8, HW7.out.trans (hb8.mono HW7.out.size), ⟨HRN.out, ?_⟩, HCC.out, HNEW.out.1, fun x hx => ?_⟩, ?_⟩
        ·have h1 := HP7.out.lt
         have h2 := (hown8.lt x hx).1
         rcases he with he | he | he
         ·omega
         ·omega
         ·have := (HP7.out.own.lt x he).2
          omega
        ·rcases Nat.eq_zero_or_pos (out2.drop out.length).length with h | h
         ·exact .inl (List.eq_nil_of_length_eq_zero h)
         ·refine .inr ?_
          rcases HR.out.2 with h2 | h2
          ·exact absurd h2 HG.out
          ·rw [List.length_drop] at h
           omega
        ·have := HCC.out.2 x (List.mem_of_mem_drop hx)
         omega
        ·rw [HG0.out]
         unfold repG
         have h1 := len_lt HCB.out.1.1 HCB.out.1.2
         have h2 := HON.out
         rw [show lenV (.slice A8 (out2.drop out.length).length cap8) = (out2.drop out.length).length from rfl]
         by_cases h : (out2.drop out.length).length = 0
         ·rw [if_pos h]
          omega
         ·rw [if_neg h, (HP7.out.stay hb8).cells.2]
          rw [List.length_drop] at h
          have h5 : ∀ (A : Option Addr) (n c : Nat), lenV (.slice A n c) = n := fun _ _ _ => rfl
          simp only [h5]
          omega
       ·have q5 : (on : Int) < (ocap2 : Int) := by omega
        have HQ2 : Hid (some (⟨g2, on, none⟩ : Addr) = none → out2.length - on = 0 ∧ ocap2 - on = 0) := fun h => by cases h
        have HQ3 : Hid (∀ g : Addr, some (⟨g2, on, none⟩ : Addr) = some g → ∀ (j : Nat) (u : Value), ((out2.drop out.length).map iv)[j]? = some u → w7.cell? (g.add j) = some u) := by
         intro g h j u hu
         cases h
         have hadd : (⟨g2, on, none⟩ : Addr).add j = ⟨g2, on + j, none⟩ := by unfold Addr.add; split <;> simp_all
         rw [hadd]
         rw [List.getElem?_map, Option.map_eq_some_iff] at hu
         obtain ⟨x, hx, rfl⟩ := hu
         rw [List.getElem?_drop, ← HON.out] at hx
         obtain ⟨hlt, hx⟩ := List.getElem?_eq_some_iff.1 hx
         rw [HAT.out (on + j) hlt, hx]
        clear hcap
        go_wp2_with (at_builtin; refine wp_copyI _ _ (out2.drop out.length) _ rfl rfl rfl rfl ⟨_, _, _, rfl, HQ1.out, HQ2.out, HQ3.out⟩ HQ4.out ?_; intro v8 w8 hown8 hb8 hfm8)
        obtain ⟨A8, cap8, rfl⟩ := hfm8
        have h9 := HDR.out
        refine ⟨⟨A8, _, cap8, f, j + 1, _, out2, _, rfl, rfl, ⟨by have := HJ.out; omega, by have := HJ.out; omega⟩, rfl, (own_rdN hown8).mono (fun x hx hl he => ?_), HP7.out.stay hb8, HB7.out.below hb8, HW7.out.trans (hb8.mono HW7.out.size), ⟨HRN.out, ?_⟩, HCC.out, HNEW.out.1, fun x hx => ?_⟩, ?_⟩
        ·have h1 := HP7.out.lt
         have h2 := (hown8.lt x hx).1
         rcases he with he | he | he
         ·omega
         ·omega
         ·have := (HP7.out.own.lt x he).2
          omega
        ·rcases Nat.eq_zero_or_pos (out2.drop out.length).length with h | h
         ·exact .inl (List.eq_nil_of_length_eq_zero h)
         ·refine .inr ?_
          rcases HR.out.2 with h2 | h2
          ·exact absurd h2 HG.out
          ·rw [List.length_drop] at h
           omega
        ·have := HCC.out.2 x (List.mem_of_mem_drop hx)
         omega
        ·rw [HG0.out]
         unfold repG
         have h1 := len_lt HCB.out.1.1 HCB.out.1.2
         have h2 := HON.out
         rw [show lenV (.slice A8 (out2.drop out.length).length cap8) = (out2.drop out.length).length from rfl]
         by_cases h : (out2.drop out.length).length = 0
         ·rw [if_pos h]
          omega
         ·rw [if_neg h, (HP7.out.stay hb8).cells.2]
          rw [List.length_drop] at h
          have h5 : ∀ (A : Option Addr) (n c : Nat), lenV (.slice A n c) = n := fun _ _ _ => rfl
          simp only [h5]
          omega
end Go.Proofs.YtpkecepelcppiaaGreatDoor

namespace Go.Proofs.YtpkecepelcppiaaGreatDoor
open Go.RowKit Go.Shelf
set_option maxHeartbeats 4000000
set_option maxRecDepth 100000

theorem ends_op5 (s : ByteArray) (d : Nat) (hs : s.size ≤ 1000000) (IH : EndsC s d) (N : Nat → Prop) (lo hi mn mx : Int) (l : List RX) (c : PC) (v : Value) (fr : List Nat) (w : World) (hp : RdP w c (.mk 5 lo hi mn mx l)) (hsn : sndR (d + 1) (.mk 5 lo hi mn mx l) = true)
  (hv : RdN N w v fr) (hnd : fr.Nodup) (hb : ∀ x ∈ fr, x ≤ s.size) (hne : 0 < fr.length) :
  Calls Tryz.prog 57 #[aggP c, .string s, v] w (EndP N (endsL (L s) (d + 1) (.mk 5 lo hi mn mx l) fr) w) := by
 have HSN := Lib.hid hsn
 have HP := Lib.hid hp
 have HV := Lib.hid hv
 have HND := Lib.hid hnd
 have HB := Lib.hid hb
 have hfr : fr ≠ [] := by intro h; rw [h] at hne; exact absurd hne (Nat.lt_irrefl _)
 obtain ⟨fa, fcap, hfv, f1, f2, -⟩ := hv.form
 obtain ⟨la, lcap, hla⟩ := hp.forms
 have hm1 : (fr.length : Int) ≤ 9223372036854775807 := by simp only [maxLen] at f2; omega
 have hm0 : ((fr.length : Int) == 0) = false := beq_false_of_ne (by omega)
 have hop : c.op = 5 ∧ c.lo = lo ∧ c.hi = hi ∧ c.mn = mn ∧ c.mx = mx := by cases hp; exact ⟨rfl, rfl, rfl, rfl, rfl⟩
 have HFR := Lib.hid hfr
 have hs0 := hs
 obtain ⟨c0, c1, c2, c3, c4, c5⟩ := c
 simp only at hop hla
 obtain ⟨rfl, rfl, rfl, rfl, rfl⟩ := hop
 rw [show (RX.mk 5 c1 c2 c3 c4 l).args = l from rfl] at hla
 subst hla
 obtain ⟨fn, hfn⟩ : ∃ fn, fn = fr.length := ⟨_, rfl⟩
 rw [← hfn] at hfv hm1 hm0 hne
 subst hfv
 have HFN := Lib.hid hfn
 simp only [aggP]
 clear hp hsn hv hnd hb hfr f1 f2 hfn
 go_enter Tryz.func57, Tryz.ntmps57
 go_upto_region 1 with fail
 generalize hW : World.alloc w _ = w1
 obtain ⟨ha, -, hz1, hb1⟩ := alloc_of hW
 have HBX := Lib.hid (show BoxP w.heap.size ⟨5, c1, c2, c3, c4, .slice la l.length lcap⟩ w1 from ha)
 have HW1 := Lib.hid hb1
 clear hW ha hb1
 go_wp2_with fail
 refine (newPlaces_any s w1 (by omega)).mono ?_
 rintro e w2 ⟨b, m, rfl, hpl, hb2⟩
 have HPL := Lib.hid hpl
 replace HBX := Lib.hid (HBX.out.below hb2)
 have HW2 := Lib.hid (HW1.out.trans (hb2.mono HW1.out.size))
 have HPB : Hid (w.heap.size + 1 ≤ b ∧ w.heap.size + 1 ≤ m) := ⟨by have := hpl.ne.2.2.2.1; omega, by have := hpl.ne.2.2.2.2; omega⟩
 obtain ⟨t0, t1, t2, t3, t4, t5⟩ := HBX.out.cells
 simp only at t0 t1 t2 t3 t4 t5
 clear hpl hb2
 obtain ⟨q, rfl⟩ : ∃ q, l = [q] := by
  have h := (snd_node HSN.out).1
  have h1 : l.length = 1 := by
   have := h
   simp only [formR] at this
   simp at this
   omega
  match l, h1 with
  | [q], _ => exact ⟨q, rfl⟩
 have hfm : (0 ≤ c3 ∧ c3 ≤ 64) ∧ (c4 = -1 ∨ (c3 ≤ c4 ∧ c4 ≤ 64)) := by
  have h := (snd_node HSN.out).1
  simp only [formR] at h
  simp at h
  omega
 have HQ := Lib.hid (show endsL (L s) (d + 1) (.mk 5 c1 c2 c3 c4 [q]) fr = repE s.size (endsL (L s) d) c3 c4 [q] fr from by simp [endsL, HFR.out, L_len])
 have HRP := Lib.hid (fun w' hp (hv : RdN N w' _ fr) => repeated_any s d hs IH N c1 c2 c3 c4 q ⟨5, c1, c2, c3, c4, .slice la [q].length lcap⟩ (.slice fa fn fcap) fr w' hp ((snd_node HSN.out).2 q (by simp)) hfm.1 hfm.2 hv HND.out HB.out)
 clear hfm IH
 have HC := Lib.hid (HRP.out w2 (HP.out.stays HW2.out) (HV.out.stay HW2.out))
 go_wp2_with fail
 refine HC.out.mono ?_
 rintro e w3 ⟨v3, rfl, hv3, hb3⟩
 have HV3 := Lib.hid (hv3.mono (M := fun g => N g ∨ w.heap.size ≤ g) (fun x h _ => by
  rcases h with h | h
  ·exact .inl h
  ·exact .inr (Nat.le_trans HW2.out.size h)))
 have HW3 := Lib.hid (HW2.out.trans (hb3.mono HW2.out.size))
 clear hv3 hb3 HC
 go_wp2_with fail
 go_ret
 rw [HQ.out]
 exact ⟨_, rfl, HV3.out, HW3.out⟩
theorem ends_all (s : ByteArray) (hs : s.size ≤ 1000000) : ∀ d, EndsC s d
 | 0 => fun _ p _ _ _ _ _ h _ _ _ => by cases h
 | d + 1 => by
  intro N p c v fr w hp hsn hv hnd hb
  have IH := ends_all s hs d
  by_cases hfr : 0 < fr.length
  ·obtain ⟨op, lo, hi, mn, mx, l⟩ := p
   have hf := (snd_node hsn).1
   have hop : op = 0 ∨ op = 1 ∨ op = 2 ∨ op = 3 ∨ op = 4 ∨ op = 5 ∨ op = 6 ∨ op = 7 := by
    unfold formR at hf
    split at hf
    ·omega
    split at hf
    ·omega
    split at hf
    ·omega
    split at hf
    ·omega
    split at hf
    ·omega
    ·cases hf
   rcases hop with rfl | rfl | rfl | rfl | rfl | rfl | rfl | rfl
   ·exact ends_op0 s d hs N lo hi mn mx l c v fr w hp hsn hv hnd hb hfr
   ·exact ends_op1 s d hs N lo hi mn mx l c v fr w hp hsn hv hnd hb hfr
   ·exact ends_op2 s d hs N lo hi mn mx l c v fr w hp hsn hv hnd hb hfr
   ·exact ends_op3 s d hs IH N lo hi mn mx l c v fr w hp hsn hv hnd hb hfr
   ·exact ends_op4 s d hs IH N lo hi mn mx l c v fr w hp hsn hv hnd hb hfr
   ·exact ends_op5 s d hs IH N lo hi mn mx l c v fr w hp hsn hv hnd hb hfr
   ·exact ends_op6 s d hs IH N lo hi mn mx l c v fr w hp hsn hv hnd hb hfr
   ·exact ends_op7 s d hs IH N lo hi mn mx l c v fr w hp hsn hv hnd hb hfr
  ·obtain rfl := List.eq_nil_of_length_eq_zero (Nat.le_zero.1 (Nat.not_lt.1 hfr))
   exact ends_nil s d N p c v w hp hv
theorem Match_any (s : ByteArray) (hs : s.size ≤ 1000000) (p : RX) (c : PC) (w : World) (hp : RdP w c p) :
  Calls Tryz.prog 36 #[aggP c, .string s] w fun e w' => e = .returned (.bool (matR p (L s))) ∧ Below w.heap.size w w' := by
 have HP := Lib.hid hp
 obtain ⟨la, lcap, hla⟩ := hp.forms
 have HE := Lib.hid (ends_all s hs 48)
 have HM : Hid (matR p (L s) = (valR p && decide (s.size ∈ endsL (L s) 48 p [0]))) := by unfold Hid matR; rw [L_len]
 generalize matR p (L s) = T at *
 obtain ⟨c0, c1, c2, c3, c4, c5⟩ := c
 simp only at hla
 generalize p.args.length = n at *
 subst hla
 simp only [aggP]
 clear hp
 go_enter Tryz.func36, Tryz.ntmps36
 go_upto_region 1 with fail
 generalize hW : World.alloc w _ = w1
 obtain ⟨ha, -, hz1, hb1⟩ := alloc_of hW
 have HBX := Lib.hid (show BoxP w.heap.size ⟨c0, c1, c2, c3, c4, .slice la n lcap⟩ w1 from ha)
 have HW1 := Lib.hid hb1
 have HV := Lib.hid (PValid_any p ⟨c0, c1, c2, c3, c4, .slice la n lcap⟩ w1 (HP.out.stays hb1))
 clear hW ha hb1 hz1
 obtain ⟨t0, t1, t2, t3, t4, t5⟩ := HBX.out.cells
 simp only at t0 t1 t2 t3 t4 t5
 go_wp2_with fail
 refine HV.out.mono ?_
 rintro e w2 ⟨rfl, hb2⟩
 have HB2 := Lib.hid (HBX.out.below hb2)
 have HW2 := Lib.hid (HW1.out.trans (hb2.mono HW1.out.size))
 clear hb2 HV HBX t0 t1 t2 t3 t4 t5
 obtain ⟨t0, t1, t2, t3, t4, t5⟩ := HB2.out.cells
 simp only at t0 t1 t2 t3 t4 t5
 cases hval : valR p with
 | false =>
  have HT : Hid (T = false) := by unfold Hid; rw [HM.out, hval]; rfl
  clear hval
  go_wp2_with fail
  go_ret
  rw [HT.out]
  exact ⟨rfl, HW2.out⟩
 | true =>
  have HSN := Lib.hid (val_parts hval).1
  have HT : Hid (T = decide (s.size ∈ endsL (L s) 48 p [0])) := by unfold Hid; rw [HM.out, hval, Bool.true_and]
  clear hval HM
  go_wp2_with fail
  generalize hW : World.alloc w2 _ = w3
  obtain ⟨ha, -, -, hb3⟩ := alloc_of hW
  have HC := Lib.hid (HE.out (fun _ => True) p ⟨c0, c1, c2, c3, c4, .slice la n lcap⟩ (.slice (some ⟨w2.heap.size, 0, none⟩) 1 1) [0] w3 (HP.out.stays (HW2.out.trans (hb3.mono HW2.out.size))) HSN.out (one_rdN ha trivial) (by simp) (fun x hx => by simp at hx; omega))
  have HW3 := Lib.hid (HW2.out.trans (hb3.mono HW2.out.size))
  clear hW ha hb3 t0 t1 t2 t3 t4 t5
  refine HC.out.mono ?_
  rintro e w4 ⟨v4, rfl, hv4, hb4⟩
  have HW4 := Lib.hid (HW3.out.trans (hb4.mono HW3.out.size))
  obtain ⟨a4, cap4, rfl, h1, h2, h3⟩ := hv4.form
  generalize endsL (L s) 48 p [0] = E at *
  have HCL := Lib.hid h3
  have hm : (E.length : Int) ≤ 9223372036854775807 := by simp only [maxLen] at h2; omega
  clear hv4 hb4 HC h1 h2 h3
  go_wp2_with fail
  go_loop [6, 15] (fun _ iv => ∃ k : Nat, k ≤ E.length ∧ iv = .int .i64 (k : Int) ∧ Hid (s.size ∉ E.take k)) (fun _ iv => E.length - (intOf iv).toNat)
  case atStart => exact ⟨0, Nat.zero_le _, rfl, by unfold Hid; simp⟩
  case round =>
   obtain ⟨k, hk, rfl, HK⟩ := hrel
   by_cases hlt : k < E.length
   case neg =>
    have hge : ¬ (k : Int) < E.length := by omega
    have HT2 : Hid (T = false) := by
     have := HK.out
     rw [List.take_of_length_le (by omega)] at this
     unfold Hid
     rw [HT.out]
     exact decide_eq_false this
    clear hlt
    go_wp2_with fail
    go_ret
    rw [HT2.out]
    exact ⟨rfl, HW4.out⟩
   case pos =>
    have hlti : (k : Int) < E.length := by omega
    obtain ⟨g, o, rfl, -, hc⟩ := HCL.out (by omega)
    have hck := hc k hlt
    have HTK := Lib.hid (List.take_succ_eq_append_getElem hlt)
    have HMEM := Lib.hid (List.getElem_mem hlt)
    generalize E[k] = x at *
    clear hc
    by_cases hx : x = s.size
    ·have e1 : ((x : Int) == (s.size : Int)) = true := by rw [hx]; simp
     have e2 : (x == s.size) = true := by rw [hx]; simp
     have HT2 : Hid (T = true) := by unfold Hid; rw [HT.out]; exact decide_eq_true (hx ▸ HMEM.out)
     clear hx
     go_wp2_with fail
     go_ret
     rw [HT2.out]
     exact ⟨rfl, HW4.out⟩
    ·have e1 : ((x : Int) == (s.size : Int)) = false := beq_false_of_ne (by omega)
     have e2 : (x == s.size) = false := beq_false_of_ne hx
     have HK2 : Hid (s.size ∉ E.take (k + 1)) := by
      unfold Hid
      rw [HTK.out, List.mem_append]
      rintro (h | h)
      ·exact HK.out h
      ·simp only [List.mem_cons, List.not_mem_nil, or_false] at h
       exact hx h.symm
     clear hx
     go_wp2_with fail
     go_round
     case rel => exact ⟨k + 1, by omega, by go_num, HK2.out⟩
     case measure => simp [intOf]; omega
end Go.Proofs.YtpkecepelcppiaaGreatDoor

namespace Go.Proofs.YtpkecepelcppiaaGreatDoor
open Go.RowKit Go.Shelf
set_option maxHeartbeats 4000000
set_option maxRecDepth 100000

def RetP (N : Nat → Prop) (p : RX) (w : World) (e : Ending) (w' : World) : Prop := ∃ c, e = .returned (aggP c) ∧ RdQ (fun g => N g ∨ w.heap.size ≤ g) w' c p ∧ Below w.heap.size w w'
def RdL (N : Nat → Prop) (w : World) (v : Value) (l : List RX) : Prop := RdQ N w ⟨0, 0, 0, 0, 0, v⟩ (.mk 0 0 0 0 0 l)
theorem RdL.stays {N : Nat → Prop} {w w' : World} {v : Value} {l : List RX} (h : RdL N w v l) (hb : Below w.heap.size w w') : RdL N w' v l := RdQ.stay h hb
theorem RdL.form {N : Nat → Prop} {w : World} {v : Value} {l : List RX} (h : RdL N w v l) : ∃ a cap, v = .slice a l.length cap ∧ l.length ≤ cap ∧ cap ≤ maxLen := by
 cases h with
 | mk _ _ _ _ _ _ _ cs hl hN hL =>
 obtain ⟨a, cap, rfl, h1, h2, -⟩ := hl
 exact ⟨a, cap, rfl, h1, h2⟩
theorem RdL.part {N : Nat → Prop} {w w' : World} {l : List RX} {a : Option Addr} {n cap : Nat} (h : RdL N w (.slice a n cap) l) (hb : Below w.heap.size w w') (k : Nat) (hk : k < l.length) :
  ∃ g o c, a = some ⟨g, o, none⟩ ∧ (∀ j, j < 6 → w'.cell? ⟨g, o + k * 6 + j, none⟩ = (PC.cells c)[j]?) ∧ RdQ (fun g => N g ∧ g < w.heap.size) w' c l[k] := by
 cases h with
 | mk _ _ _ _ _ _ _ cs hl hN hL =>
 obtain ⟨a', cap', he, h1, h2, h0, h3⟩ := hl
 cases he
 obtain ⟨g, o, rfl, hg, hc⟩ := h3 (by omega)
 exact ⟨g, o, cs k, rfl, fun j hj => (hb.cell (p := ⟨g, o + k * 6 + j, none⟩) hg).trans (hc k hk j hj), ((hL k hk).mono (fun g h1 h2 => ⟨h1, h2⟩)).stay hb⟩
theorem RetP.fin {N : Nat → Prop} {w0 w w4 : World} {d z : PC} {p : RX} (hx : BoxP w0.heap.size z w) (hb : Below w0.heap.size w0 w) (hd : RdQ (fun g => (N g ∧ g < w0.heap.size) ∨ w0.heap.size + 1 ≤ g) w d p)
  (he : ((((((w.setCell ⟨w0.heap.size, 0, none⟩ (.int .i64 d.op)).setCell ⟨w0.heap.size, 1, none⟩ (.int .i64 d.lo)).setCell ⟨w0.heap.size, 2, none⟩ (.int .i64 d.hi)).setCell ⟨w0.heap.size, 3, none⟩ (.int .i64 d.mn)).setCell ⟨w0.heap.size, 4, none⟩ (.int .i64 d.mx)).setCell ⟨w0.heap.size, 5, none⟩ d.a) = w4) :
  BoxP w0.heap.size d w4 ∧ RetP N p w0 (.returned (aggP d)) w4 := by
 obtain ⟨b1, b2⟩ := hx.set he
 have ho := set6_other he
 exact ⟨b1, d, rfl, (hd.keep (fun x hx _ => ho x (by omega))).mono (fun g hg _ => by rcases hg with hg | hg; exact .inl hg.1; exact .inr (by omega)), hb.trans b2⟩
structure GrS (N : Nat → Prop) (op : Int) (w wr : World) (v : Value) (cs : List PC) (ps : List RX) : Prop where
 ret : BoxP w.heap.size ⟨0, 0, 0, 0, 0, .slice none 0 0⟩ wr
 box : BoxP (w.heap.size + 1) ⟨op, 0, 0, 0, 0, v⟩ wr
 own : OwnP (fun g => N g ∧ g < w.heap.size) (w.heap.size + 2) wr v cs ps
 bel : Below w.heap.size w wr
theorem GrS.own_ge {N : Nat → Prop} {op : Int} {w wr : World} {v : Value} {cs : List PC} {ps : List RX} (h : GrS N op w wr v cs ps) (x : Nat) (hx : v.ownBlock = some x) : w.heap.size + 2 ≤ x := (h.own.1.lt x hx).1
theorem GrS.stay {N : Nat → Prop} {op : Int} {w wr wx : World} {v : Value} {cs : List PC} {ps : List RX} (h : GrS N op w wr v cs ps) (hb : Below wr.heap.size wr wx) : GrS N op w wx v cs ps :=
 ⟨h.ret.below hb, h.box.below hb, h.own.keep2 (fun g _ hg => hb.block g hg), h.bel.trans (hb.mono h.bel.size)⟩
theorem OwnP.mono {N M : Nat → Prop} {B : Nat} {w : World} {v : Value} {cs : List PC} {ps : List RX} (h : OwnP N B w v cs ps) (hm : ∀ g, N g → M g) : OwnP M B w v cs ps :=
 ⟨h.1, h.2.1, fun i h1 h2 => (h.2.2 i h1 h2).mono (fun g hg _ => ⟨hm g hg.1, hg.2⟩)⟩
theorem GrS.push {N : Nat → Prop} {op : Int} {w wr w3 : World} {v v' : Value} {cs : List PC} {ps : List RX} {c : PC} {p : RX} (h : GrS N op w wr v cs ps) (hown : OwnP (fun g => N g ∧ g < w.heap.size) (w.heap.size + 2) w3 v' (cs ++ [c]) (ps ++ [p])) (hg : wr.grownBy w3 v.ownBlock) :
  BoxP (w.heap.size + 1) ⟨op, 0, 0, 0, 0, v⟩ w3 ∧ GrS N op w (w3.setCell ⟨w.heap.size + 1, 5, none⟩ v') v' (cs ++ [c]) (ps ++ [p]) := by
 have hl : ∀ x, x < w.heap.size + 2 → x < wr.heap.size → w3.heap[x]? = wr.heap[x]? := fun x h1 h2 => hg.block x h2 (fun he => by have := h.own_ge x he.symm; omega)
 have hb : Below (w.heap.size + 2) wr w3 := ⟨hg.os, hg.tape, hg.output, hg.size, fun x hx => hl x hx (by have := h.box.lt; omega)⟩
 have h1 : BoxP (w.heap.size + 1) ⟨op, 0, 0, 0, 0, v⟩ w3 := (hl _ (by omega) h.box.lt).trans h.box
 have hot : ∀ y, y ≠ w.heap.size + 1 → (w3.setCell ⟨w.heap.size + 1, 5, none⟩ v').heap[y]? = w3.heap[y]? := fun y hy => Below.heap_setCell w3 ⟨w.heap.size + 1, 5, none⟩ v' y hy
 refine ⟨h1, (hot _ (by omega)).trans ((hl _ (by omega) h.ret.lt).trans h.ret), heap_setCell_same w3 (w.heap.size + 1) 5 _ _ v' h1, hown.keep2 (fun g hg _ => hot g (fun he => ?_)), (h.bel.trans (hb.mono (by omega))).setCell (p := ⟨w.heap.size + 1, 5, none⟩) (by show _ ≤ w.heap.size + 1; omega) _⟩
 rcases hg with hg | hg
 ·omega
 ·have := (hown.1.lt g hg).1
  omega
end Go.Proofs.YtpkecepelcppiaaGreatDoor
