/- datakitref15.show, Text walked. Conditions: the text of at most 10^9 bytes. -/
import Derived.Test.YtpkecepelcppiaaGreatDoorZa16
import Derived.Test.YtpkecepelcppiaaGreatDoorZa19
import Derived.Test.YtpkecepelcppiaaGreatDoorZa30
import Derived.Test.YtpkecepelcppiaaGreatDoorZa10
namespace Go.Proofs.YtpkecepelcppiaaGreatDoor
open Go.RowKit Go.Shelf
set_option maxHeartbeats 4000000
set_option maxRecDepth 100000

def ShwC (d : Nat) : Prop := ∀ (p : RX) (c : PC) (w : World), RdP w c p → sndR d p = true → (showR d p).length ≤ 1000000000 → Calls Tryz.prog 103 #[aggP c] w (StrQ (showR d p) w)
theorem argR_any (d : Nat) (IH0 : ShwC d) (p : RX) (least : Nat) (hls : least ≤ 9) (c : PC) (w : World) (hp : RdP w c p) (hs : sndR d p = true) (hz : (argT (showR d) least p).length ≤ 1000000000) :
  Calls Tryz.prog 138 #[aggP c, .int .i64 (least : Int)] w (StrQ (argT (showR d) least p) w) := by
 have hz2 : (showR d p).length ≤ (argT (showR d) least p).length := by
  unfold argT
  split
  ·simp
   omega
  ·exact Nat.le_refl _
 have HC := Lib.hid (fun w' (hb : Below w.heap.size w w') => IH0 p c w' (hp.stays hb) hs (Nat.le_trans hz2 hz))
 have HT : Hid (argT (showR d) least p = if rowR p.op < least then 40 :: (showR d p ++ [41]) else showR d p) := rfl
 have HZ : Hid ((showR d p).length ≤ 1000000000) := Nat.le_trans hz2 hz
 have hop : c.op = p.op := by cases hp; rfl
 obtain ⟨la, lcap, hla⟩ := hp.forms
 obtain ⟨c0, c1, c2, c3, c4, c5⟩ := c
 simp only at hla hop
 generalize argT (showR d) least p = T at *
 generalize showR d p = U at *
 generalize p.args.length = n at *
 rw [← hop] at HT
 subst hla
 have hrow : rowR c0 ≤ 6 := by unfold rowR; repeat' split
                               all_goals omega
 generalize hr : rowR c0 = r at *
 have HR := Lib.hid hr
 simp only [aggP]
 clear hp hs hz hz2 hop hr IH0
 go_enter Tryz.func138, Tryz.ntmps138
 go_upto_region 1 with fail
 generalize hW : World.alloc w _ = w1
 obtain ⟨ha, -, hz1, hb1⟩ := alloc_of hW
 have HX := Lib.hid (show BoxP w.heap.size ⟨c0, c1, c2, c3, c4, .slice la n lcap⟩ w1 from ha)
 have HB := Lib.hid hb1
 clear hW ha hz1 hb1
 obtain ⟨t0, t1, t2, t3, t4, t5⟩ := HX.out.cells
 simp only at t0 t1 t2 t3 t4 t5
 go_wp2_with fail
 refine (level_any c0 w1).mono ?_
 rintro e w2 ⟨rfl, rfl⟩
 rw [HR.out]
 by_cases hlt : r < least
 ·have HT2 : Hid (T = 40 :: (U ++ [41])) := by unfold Hid; rw [HT.out, if_pos hlt]
  have hlti : (r : Int) < (least : Int) := by omega
  clear hlt HT
  go_wp2_with fail
  refine (HC.out w1 HB.out).mono ?_
  rintro e w2 ⟨⟨u, rfl, hu⟩, hb⟩
  have HU := Lib.hid hu
  have HW := Lib.hid (HB.out.trans (hb.mono HB.out.size))
  have hsz : u.size ≤ 1000000000 := by rw [← L_len, hu]; exact HZ.out
  clear hu hb t0 t1 t2 t3 t4 t5
  go_wp2_with fail
  go_ret
  exact ⟨⟨_, rfl, by rw [HT2.out, L_append, L_append, HU.out]; rfl⟩, HW.out⟩
 ·have HT2 : Hid (T = U) := by unfold Hid; rw [HT.out, if_neg hlt]
  have hlti : ¬ (r : Int) < (least : Int) := by omega
  clear hlt HT
  go_wp2_with fail
  refine (HC.out w1 HB.out).mono ?_
  rintro e w2 ⟨⟨u, rfl, hu⟩, hb⟩
  have HU := Lib.hid hu
  have HW := Lib.hid (HB.out.trans (hb.mono HB.out.size))
  clear hu hb t0 t1 t2 t3 t4 t5
  go_wp2_with fail
  go_ret
  exact ⟨⟨_, rfl, by rw [HT2.out, HU.out]⟩, HW.out⟩
theorem listR_any (d : Nat) (IH0 : ShwC d) (l : List RX) (sep : ByteArray) (hsp : sep.size ≤ 10) (least : Nat) (hls : least ≤ 9) (lv : Value) (cs : Nat → PC) (w : World) (hl : SlX w lv l.length 6 (fun i => (cs i).cells)) (hL : ∀ i (hi : i < l.length), RdP w (cs i) l[i]) (hS : ∀ q ∈ l, sndR d q = true)
  (hz : (joinT (L sep) (l.map (argT (showR d) least))).length ≤ 1000000000) :
  Calls Tryz.prog 137 #[lv, .string sep, .int .i64 (least : Int)] w (StrQ (joinT (L sep) (l.map (argT (showR d) least))) w) := by
 obtain ⟨M, hM⟩ : ∃ M, M = l.map (argT (showR d) least) := ⟨_, rfl⟩
 rw [← hM] at hz ⊢
 have HM : Hid (M.length = l.length ∧ ∀ i (hi : i < l.length) (h2 : i < M.length), M[i] = argT (showR d) least l[i]) := by
  subst hM
  exact ⟨by simp, fun i hi h2 => by simp⟩
 have HZ := Lib.hid hz
 have HSP := Lib.hid hsp
 have HA := Lib.hid (fun i (hi : i < l.length) w' (hb : Below w.heap.size w w') (hq : (argT (showR d) least l[i]).length ≤ 1000000000) => argR_any d IH0 l[i] least hls (cs i) w' ((hL i hi).stays hb) (hS _ (List.getElem_mem hi)) hq)
 have HF := Lib.hid (fun i (hi : i < l.length) => (hL i hi).forms)
 obtain ⟨a, cap, rfl, q1, q2, q3, q4⟩ := hl
 have HC := Lib.hid q4
 have hm : (l.length : Int) ≤ 9223372036854775807 := by simp only [maxLen] at q2; omega
 clear hM hz hL hS q1 q2 q3 q4 hls IH0 hsp
 go_enter Tryz.func137, Tryz.ntmps137
 go_wp2_with fail
 go_loopw [7, 8] (fun sv iv wr => ∃ (k : Nat) (u : ByteArray), k ≤ l.length ∧ iv = .int .i64 (k : Int) ∧ sv = .string u ∧ Hid (L u = joinT (L sep) (M.take k)) ∧ Hid (Below w.heap.size w wr)) (fun _ iv _ => l.length - (intOf iv).toNat)
 case atStart => exact ⟨0, ⟨#[]⟩, Nat.zero_le _, rfl, rfl, rfl, Below.refl _ _⟩
 case round =>
  obtain ⟨k, u, hk, rfl, rfl, HU, HB⟩ := hrel
  by_cases hlt : k < l.length
  case neg =>
   have hge : ¬ (k : Int) < l.length := by omega
   have HU2 : Hid (L u = joinT (L sep) M) := by
    have := HU.out
    rwa [List.take_of_length_le (by rw [HM.out.1]; omega)] at this
   clear hlt
   go_wp2_with fail
   go_ret
   exact ⟨⟨u, rfl, HU2.out⟩, HB.out⟩
  case pos =>
   have hlti : (k : Int) < l.length := by omega
   have hkM : k < M.length := by rw [HM.out.1]; exact hlt
   have HJ := Lib.hid (join_take (L sep) M k hkM)
   have hjl := join_le (L sep) M (k + 1)
   rw [HJ.out, List.length_append, List.length_append] at hjl
   have HJL : Hid (u.size + ((if k = 0 then [] else L sep).length + M[k].length) ≤ 1000000000) := by
    have h1 := HU.out
    have h2 := HZ.out
    unfold Hid
    rw [← L_len, h1]
    omega
   have hq : (argT (showR d) least l[k]).length ≤ 1000000000 := by
    have := HJL.out
    rw [HM.out.2 k hlt hkM] at this
    omega
   have HK : Hid (M[k] = argT (showR d) least l[k]) := HM.out.2 k hlt hkM
   have HAK := Lib.hid (fun w' hb => HA.out k hlt w' hb hq)
   obtain ⟨g, o, rfl, hg, hc⟩ := HC.out (by omega)
   have hc6 := hc k hlt
   have HG := Lib.hid hg
   obtain ⟨la, lcap, hla⟩ := HF.out k hlt
   generalize (l[k]).args.length = n at *
   generalize argT (showR d) least l[k] = T at *
   generalize M[k] = Mk at *
   generalize cs k = c at *
   obtain ⟨c0, c1, c2, c3, c4, c5⟩ := c
   simp only at hla
   subst hla
   have HC6 := Lib.hid hc6
   clear hc hg hq hjl hc6
   by_cases hk0 : k = 0
   ·subst hk0
    have HU0 : Hid (L u = []) := by
     have := HU.out
     unfold Hid
     rw [this]
     rfl
    have hj : ((if (0 : Nat) = 0 then [] else L sep) : List UInt8) = [] := if_pos rfl
    rw [hj] at HJ HJL
    obtain ⟨x0, x1, x2, x3, x4, x5⟩ := cells6 (w := wr) (g := g) (o := o + 0 * 6) (c := ⟨c0, c1, c2, c3, c4, .slice la n lcap⟩) (fun j hj => (HB.out.cell (p := ⟨g, o + 0 * 6 + j, none⟩) HG.out).trans (HC6.out j hj))
    clear hj
    simp only [Nat.zero_mul, Nat.add_zero] at x0 x1 x2 x3 x4 x5
    go_wp2_with fail
    refine (HAK.out wr HB.out).mono ?_
    rintro e w2 ⟨⟨x, rfl, hx⟩, hb⟩
    have HX := Lib.hid hx
    have HB2 := Lib.hid (HB.out.trans (hb.mono HB.out.size))
    have hsz : u.size + x.size ≤ 1000000000 := by
     have h1 := HJL.out
     rw [HK.out, ← hx, L_len] at h1
     simpa using h1
    clear hx hb x0 x1 x2 x3 x4 x5
    go_wp2_with fail
    refine ⟨⟨1, _, by omega, rfl, rfl, ?_, HB2.out⟩, by simp [intOf]; omega⟩
    unfold Hid
    rw [show (1 : Nat) = 0 + 1 from rfl, HJ.out, ← HU.out, L_append, HX.out, HK.out, List.nil_append]
   ·have hk0i : (0 : Int) < (k : Int) := by omega
    have hj : (if k = 0 then [] else L sep) = L sep := if_neg hk0
    rw [hj] at HJ HJL
    obtain ⟨x0, x1, x2, x3, x4, x5⟩ := cells6 (w := wr) (g := g) (o := o + k * 6) (c := ⟨c0, c1, c2, c3, c4, .slice la n lcap⟩) (fun j hj => (HB.out.cell (p := ⟨g, o + k * 6 + j, none⟩) HG.out).trans (HC6.out j hj))
    have hs1 : u.size + sep.size ≤ 1000000000 := by
     have h1 := HJL.out
     rw [L_len] at h1
     omega
    clear hj hk0
    simp only at x0 x1 x2 x3 x4 x5
    go_wp2_with fail
    refine (HAK.out wr HB.out).mono ?_
    rintro e w2 ⟨⟨x, rfl, hx⟩, hb⟩
    have HX := Lib.hid hx
    have HB2 := Lib.hid (HB.out.trans (hb.mono HB.out.size))
    have hsz : u.size + sep.size + x.size ≤ 1000000000 := by
     have h1 := HJL.out
     rw [HK.out, ← hx, L_len, L_len] at h1
     omega
    clear hx hb x0 x1 x2 x3 x4 x5 hs1
    go_wp2_with fail
    refine ⟨⟨k + 1, _, by omega, by simp, rfl, ?_, HB2.out⟩, by simp [intOf]; omega⟩
    unfold Hid
    rw [HJ.out, ← HU.out, L_append, L_append, HX.out, HK.out, List.append_assoc]
theorem byte_len (b : Nat) : (byteT b).length ≤ 10 := by
 unfold byteT
 split <;> simp
theorem rdp_list {w : World} {op lo hi mn mx : Int} {l : List RX} {lv : Value} (h : RdP w ⟨op, lo, hi, mn, mx, lv⟩ (.mk op lo hi mn mx l)) : ∃ cs : Nat → PC, SlX w lv l.length 6 (fun i => (cs i).cells) ∧ ∀ i (hi : i < l.length), RdP w (cs i) l[i] := by
 cases h with
 | mk _ _ _ _ _ _ _ cs hl hL => exact ⟨cs, hl, hL⟩
theorem show_next (d : Nat) (IH0 : ShwC d) : ShwC (d + 1) := by
 intro p c w hp hs hz
 obtain ⟨op, lo, hi, mn, mx, l⟩ := p
 obtain ⟨hf, hk⟩ := snd_node hs
 have HP := Lib.hid hp
 have HKS := Lib.hid hk
 have HFM := Lib.hid (form_ways hf)
 have HZ := Lib.hid hz
 obtain ⟨la, lcap, hla⟩ := hp.forms
 have hop : c.op = op ∧ c.lo = lo ∧ c.hi = hi ∧ c.mn = mn ∧ c.mx = mx := by cases hp; exact ⟨rfl, rfl, rfl, rfl, rfl⟩
 obtain ⟨c0, c1, c2, c3, c4, c5⟩ := c
 simp only at hop hla
 obtain ⟨rfl, rfl, rfl, rfl, rfl⟩ := hop
 rw [show (RX.mk c0 c1 c2 c3 c4 l).args = l from rfl] at hla
 subst hla
 have IH := Lib.hid IH0
 simp only [aggP]
 clear hp hs hz hf hk IH0
 go_enter Tryz.func103, Tryz.ntmps103
 go_upto_region 1 with fail
 generalize hW : World.alloc w _ = w1
 obtain ⟨ha, -, hz1, hb1⟩ := alloc_of hW
 have HX := Lib.hid (show BoxP w.heap.size ⟨c0, c1, c2, c3, c4, .slice la l.length lcap⟩ w1 from ha)
 have HB := Lib.hid hb1
 clear hW ha hz1 hb1
 obtain ⟨t0, t1, t2, t3, t4, t5⟩ := HX.out.cells
 simp only at t0 t1 t2 t3 t4 t5
 rcases HFM.out with ⟨h0 | h0, hn, e1, e2, e3, e4⟩ | ⟨h0, hn, h1, h2, h3, e3, e4⟩ | ⟨h0 | h0 | h0, hn, e1, e2, e3, e4⟩ | ⟨h0, hn, e1, e2, h1, h2, h3⟩ | ⟨h0, hn, e1, e2, e3, e4⟩
 ·subst h0
  go_wp2_with fail
  go_ret
  exact ⟨⟨_, rfl, by simp [showR, L]⟩, HB.out⟩
 ·subst h0
  go_wp2_with fail
  go_ret
  exact ⟨⟨_, rfl, by simp [showR, L]⟩, HB.out⟩
 ·subst h0 e3 e4
  obtain ⟨a, rfl⟩ : ∃ a : Nat, c1 = (a : Int) := ⟨c1.toNat, by omega⟩
  obtain ⟨b, rfl⟩ : ∃ b : Nat, c2 = (b : Int) := ⟨c2.toNat, by omega⟩
  have HT : Hid (showR (d + 1) (.mk 2 (a : Int) (b : Int) 0 0 l) = rngT (a : Int) (b : Int)) := by simp [Hid, showR]
  have hab : a ≤ b ∧ b ≤ 255 := by omega
  have HAB := Lib.hid hab
  by_cases hq : a = b
  ·subst hq
   have HT2 : Hid (rngT (a : Int) (a : Int) = byteT a) := by simp [Hid, rngT]
   have HC := Lib.hid (byteR_any a hab.2 w1)
   clear hab h1 h2 h3 hn
   go_wp2_with fail
   refine HC.out.mono ?_
   rintro e w2 ⟨⟨u, rfl, hu⟩, hb⟩
   have HU := Lib.hid hu
   have HB2 := Lib.hid (HB.out.trans (hb.mono HB.out.size))
   clear hu hb
   go_wp2_with fail
   go_ret
   exact ⟨⟨u, rfl, by rw [HU.out, HT.out, HT2.out]⟩, HB2.out⟩
  have hqi : ((a : Int) == (b : Int)) = false := beq_false_of_ne (by omega)
  by_cases hd : a = 0 ∧ b = 255
  ·obtain ⟨rfl, rfl⟩ := hd
   clear hab h1 h2 h3 hn hq
   go_wp2_with fail
   go_ret
   exact ⟨⟨_, rfl, (by simp [showR, rngT, L])⟩, HB.out⟩
  have HT2 : Hid (rngT (a : Int) (b : Int) = 91 :: (byteT a ++ (45 :: (byteT b ++ [93])))) := by
   unfold Hid rngT
   rw [if_neg (by omega), if_neg (by omega)]
   rfl
  clear h1 h2 h3 hn hq
  have key : (((a : Int) == 0) = false) ∨ (((a : Int) == 0) = true ∧ ((b : Int) == 255) = false) := by
   by_cases ha : a = 0
   ·subst ha
    exact .inr ⟨rfl, beq_false_of_ne (by omega)⟩
   ·exact .inl (beq_false_of_ne (by omega))
  clear hd hab
  have HBw := HB
  rcases key with k1 | ⟨k1, k2⟩
  ·go_upto_region 9 with fail
   have hS0 : BoxP w.heap.size ⟨2, (a : Int), (b : Int), 0, 0, .slice la l.length lcap⟩ w1.drew := HX.out
   have HBw2 : Hid (Below w.heap.size w w1.drew) := HBw.out.trans ((below_drewN (Below.refl w1.heap.size w1) 1).mono HBw.out.size)
   refine wpq_region (fun w' => BoxP w.heap.size ⟨2, (a : Int), (b : Int), 0, 0, .slice la l.length lcap⟩ w') 10 (by kernel_rfl) hS0 (fun hHeld => ?_)
   clear hS0 HX t0 t1 t2 t3 t4 t5 HB HBw
   have HBw := HBw2
   clear HBw2
   generalize w1.drew = wd at *
   refine wpq_tk 0 (some 25) [10] (Or.inl ⟨by rfl, fun w hSw => by (obtain ⟨x0, x1, x2, x3, x4, x5⟩ := BoxP.cells hSw; simp only at x0 x1 x2 x3 x4 x5; go_simp; with_reducible rfl)⟩) hHeld ?_ rfl rfl
   simp only [Act.put, sA, sZ, sS]
   refine wpq_tk 1 (some 26) [10] (Or.inl ⟨by rfl, fun w hSw => by (obtain ⟨x0, x1, x2, x3, x4, x5⟩ := BoxP.cells hSw; simp only at x0 x1 x2 x3 x4 x5; go_simp; with_reducible rfl)⟩) hHeld ?_ rfl rfl
   simp only [Act.put, sA, sZ, sS]
   refine wpq_tk 5 (some 30) [10] (Or.inl ⟨by rfl, fun w hSw => by (obtain ⟨x0, x1, x2, x3, x4, x5⟩ := BoxP.cells hSw; simp only at x0 x1 x2 x3 x4 x5; go_simp; with_reducible rfl)⟩) hHeld ?_ rfl rfl
   simp only [Act.put, sA, sZ, sS]
   refine wpq_tk 6 (some 31) [10] (Or.inl ⟨by rfl, fun w hSw => by (obtain ⟨x0, x1, x2, x3, x4, x5⟩ := BoxP.cells hSw; simp only at x0 x1 x2 x3 x4 x5; go_simp; with_reducible rfl)⟩) hHeld ?_ rfl rfl
   simp only [Act.put, sA, sZ, sS]
   refine wpq_one 2 (by kernel_rfl) rfl (fun K hK => ?_)
   go_simp
   refine (byteR_any a (by have := HAB.out; omega) _).mono ?_
   rintro e wd2 ⟨⟨x, rfl, hu⟩, hb⟩
   have Hx := Lib.hid hu
   have HBx := Lib.hid (HBw.out.trans (hb.mono HBw.out.size))
   have hzx : x.size ≤ 10 := by rw [← L_len, hu]; exact byte_len _
   replace hHeld := hHeld.below hb
   clear hu hb HBw
   have HBw := HBx
   clear HBx
   generalize wd2 = wd at *
   refine hK.out _ _ hHeld (fun hHeld => ?_)
   clear hK K
   refine wpq_tk 3 (some 28) [10] (Or.inl ⟨by rfl, fun w hSw => by (obtain ⟨x0, x1, x2, x3, x4, x5⟩ := BoxP.cells hSw; simp only at x0 x1 x2 x3 x4 x5; go_simp; rw [if_neg (by first | omega | (simp only [ByteArray.size_append]; omega) | (simp; omega))])⟩) hHeld ?_ rfl rfl
   simp only [Act.put, sA, sZ, sS]
   refine wpq_tk 4 (some 29) [10] (Or.inl ⟨by rfl, fun w hSw => by (obtain ⟨x0, x1, x2, x3, x4, x5⟩ := BoxP.cells hSw; simp only at x0 x1 x2 x3 x4 x5; go_simp; rw [if_neg (by first | omega | (simp only [ByteArray.size_append]; omega) | (simp; omega))])⟩) hHeld ?_ rfl rfl
   simp only [Act.put, sA, sZ, sS]
   refine wpq_one 7 (by kernel_rfl) rfl (fun K hK => ?_)
   go_simp
   refine (byteR_any b HAB.out.2 _).mono ?_
   rintro e wd2 ⟨⟨y, rfl, hu⟩, hb⟩
   have Hy := Lib.hid hu
   have HBy := Lib.hid (HBw.out.trans (hb.mono HBw.out.size))
   have hzy : y.size ≤ 10 := by rw [← L_len, hu]; exact byte_len _
   replace hHeld := hHeld.below hb
   clear hu hb HBw
   have HBw := HBy
   clear HBy
   generalize wd2 = wd at *
   refine hK.out _ _ hHeld (fun hHeld => ?_)
   clear hK K
   refine wpq_tk 8 (some 33) [10] (Or.inl ⟨by rfl, fun w hSw => by (obtain ⟨x0, x1, x2, x3, x4, x5⟩ := BoxP.cells hSw; simp only at x0 x1 x2 x3 x4 x5; go_simp; rw [if_neg (by first | omega | (simp only [ByteArray.size_append]; omega) | (simp; omega))])⟩) hHeld ?_ rfl rfl
   simp only [Act.put, sA, sZ, sS]
   refine wpq_tk 9 (some 34) [10] (Or.inl ⟨by rfl, fun w hSw => by (obtain ⟨x0, x1, x2, x3, x4, x5⟩ := BoxP.cells hSw; simp only at x0 x1 x2 x3 x4 x5; go_simp; rw [if_neg (by first | omega | (simp only [ByteArray.size_append]; omega) | (simp; omega))])⟩) hHeld ?_ rfl rfl
   simp only [Act.put, sA, sZ, sS]
   refine wpq_end 10 (by kernel_rfl) rfl (by kernel_rfl) (fun K hK => ?_)
   go_simp
   refine hK.out _ _ ?_
   clear hK K
   refine wpq_done (by kernel_rfl) ?_ _
   go_simp
   go_wp2_with fail
   go_ret
   exact ⟨⟨_, rfl, by rw [HT.out, HT2.out]; simp only [L_append, Hx.out, Hy.out]; simp [L]⟩, HBw.out⟩
  ·go_upto_region 9 with fail
   have hS0 : BoxP w.heap.size ⟨2, (a : Int), (b : Int), 0, 0, .slice la l.length lcap⟩ w1.drew := HX.out
   have HBw2 : Hid (Below w.heap.size w w1.drew) := HBw.out.trans ((below_drewN (Below.refl w1.heap.size w1) 1).mono HBw.out.size)
   refine wpq_region (fun w' => BoxP w.heap.size ⟨2, (a : Int), (b : Int), 0, 0, .slice la l.length lcap⟩ w') 10 (by kernel_rfl) hS0 (fun hHeld => ?_)
   clear hS0 HX t0 t1 t2 t3 t4 t5 HB HBw
   have HBw := HBw2
   clear HBw2
   generalize w1.drew = wd at *
   refine wpq_tk 0 (some 25) [10] (Or.inl ⟨by rfl, fun w hSw => by (obtain ⟨x0, x1, x2, x3, x4, x5⟩ := BoxP.cells hSw; simp only at x0 x1 x2 x3 x4 x5; go_simp; with_reducible rfl)⟩) hHeld ?_ rfl rfl
   simp only [Act.put, sA, sZ, sS]
   refine wpq_tk 1 (some 26) [10] (Or.inl ⟨by rfl, fun w hSw => by (obtain ⟨x0, x1, x2, x3, x4, x5⟩ := BoxP.cells hSw; simp only at x0 x1 x2 x3 x4 x5; go_simp; with_reducible rfl)⟩) hHeld ?_ rfl rfl
   simp only [Act.put, sA, sZ, sS]
   refine wpq_tk 5 (some 30) [10] (Or.inl ⟨by rfl, fun w hSw => by (obtain ⟨x0, x1, x2, x3, x4, x5⟩ := BoxP.cells hSw; simp only at x0 x1 x2 x3 x4 x5; go_simp; with_reducible rfl)⟩) hHeld ?_ rfl rfl
   simp only [Act.put, sA, sZ, sS]
   refine wpq_tk 6 (some 31) [10] (Or.inl ⟨by rfl, fun w hSw => by (obtain ⟨x0, x1, x2, x3, x4, x5⟩ := BoxP.cells hSw; simp only at x0 x1 x2 x3 x4 x5; go_simp; with_reducible rfl)⟩) hHeld ?_ rfl rfl
   simp only [Act.put, sA, sZ, sS]
   refine wpq_one 2 (by kernel_rfl) rfl (fun K hK => ?_)
   go_simp
   refine (byteR_any a (by have := HAB.out; omega) _).mono ?_
   rintro e wd2 ⟨⟨x, rfl, hu⟩, hb⟩
   have Hx := Lib.hid hu
   have HBx := Lib.hid (HBw.out.trans (hb.mono HBw.out.size))
   have hzx : x.size ≤ 10 := by rw [← L_len, hu]; exact byte_len _
   replace hHeld := hHeld.below hb
   clear hu hb HBw
   have HBw := HBx
   clear HBx
   generalize wd2 = wd at *
   refine hK.out _ _ hHeld (fun hHeld => ?_)
   clear hK K
   refine wpq_tk 3 (some 28) [10] (Or.inl ⟨by rfl, fun w hSw => by (obtain ⟨x0, x1, x2, x3, x4, x5⟩ := BoxP.cells hSw; simp only at x0 x1 x2 x3 x4 x5; go_simp; rw [if_neg (by first | omega | (simp only [ByteArray.size_append]; omega) | (simp; omega))])⟩) hHeld ?_ rfl rfl
   simp only [Act.put, sA, sZ, sS]
   refine wpq_tk 4 (some 29) [10] (Or.inl ⟨by rfl, fun w hSw => by (obtain ⟨x0, x1, x2, x3, x4, x5⟩ := BoxP.cells hSw; simp only at x0 x1 x2 x3 x4 x5; go_simp; rw [if_neg (by first | omega | (simp only [ByteArray.size_append]; omega) | (simp; omega))])⟩) hHeld ?_ rfl rfl
   simp only [Act.put, sA, sZ, sS]
   refine wpq_one 7 (by kernel_rfl) rfl (fun K hK => ?_)
   go_simp
   refine (byteR_any b HAB.out.2 _).mono ?_
   rintro e wd2 ⟨⟨y, rfl, hu⟩, hb⟩
   have Hy := Lib.hid hu
   have HBy := Lib.hid (HBw.out.trans (hb.mono HBw.out.size))
   have hzy : y.size ≤ 10 := by rw [← L_len, hu]; exact byte_len _
   replace hHeld := hHeld.below hb
   clear hu hb HBw
   have HBw := HBy
   clear HBy
   generalize wd2 = wd at *
   refine hK.out _ _ hHeld (fun hHeld => ?_)
   clear hK K
   refine wpq_tk 8 (some 33) [10] (Or.inl ⟨by rfl, fun w hSw => by (obtain ⟨x0, x1, x2, x3, x4, x5⟩ := BoxP.cells hSw; simp only at x0 x1 x2 x3 x4 x5; go_simp; rw [if_neg (by first | omega | (simp only [ByteArray.size_append]; omega) | (simp; omega))])⟩) hHeld ?_ rfl rfl
   simp only [Act.put, sA, sZ, sS]
   refine wpq_tk 9 (some 34) [10] (Or.inl ⟨by rfl, fun w hSw => by (obtain ⟨x0, x1, x2, x3, x4, x5⟩ := BoxP.cells hSw; simp only at x0 x1 x2 x3 x4 x5; go_simp; rw [if_neg (by first | omega | (simp only [ByteArray.size_append]; omega) | (simp; omega))])⟩) hHeld ?_ rfl rfl
   simp only [Act.put, sA, sZ, sS]
   refine wpq_end 10 (by kernel_rfl) rfl (by kernel_rfl) (fun K hK => ?_)
   go_simp
   refine hK.out _ _ ?_
   clear hK K
   refine wpq_done (by kernel_rfl) ?_ _
   go_simp
   go_wp2_with fail
   go_ret
   exact ⟨⟨_, rfl, by rw [HT.out, HT2.out]; simp only [L_append, Hx.out, Hy.out]; simp [L]⟩, HBw.out⟩
 ·subst h0 e1 e2 e3 e4
  have HT : Hid (showR (d + 1) (.mk 3 0 0 0 0 l) = joinT [] (l.map (argT (showR d) 4))) := by simp [Hid, showR]
  have HC : Hid (Calls Tryz.prog 137 #[.slice la l.length lcap, .string ⟨#[]⟩, .int .i64 4] w1 (StrQ (joinT [] (l.map (argT (showR d) 4))) w1)) := by
   obtain ⟨cs, hl, hL⟩ := rdp_list HP.out
   exact listR_any d IH.out l ⟨#[]⟩ (by decide) 4 (by decide) _ cs w1 (hl.below HB.out) (fun i hi => (hL i hi).stays HB.out) HKS.out (by
    have := HZ.out
    rw [HT.out] at this
    exact this)
  generalize showR (d + 1) (.mk 3 0 0 0 0 l) = T at *
  generalize joinT [] (l.map (argT (showR d) 4)) = U at *
  clear hn HKS HP IH HFM HZ
  go_wp2_with fail
  refine HC.out.mono ?_
  rintro e w2 ⟨⟨u, rfl, hu⟩, hb⟩
  have HU := Lib.hid hu
  have HB2 := Lib.hid (HB.out.trans (hb.mono HB.out.size))
  clear hu hb HC
  go_wp2_with fail
  go_ret
  exact ⟨⟨u, rfl, by rw [HU.out, HT.out]⟩, HB2.out⟩
 ·subst h0 e1 e2 e3 e4
  have HT : Hid (showR (d + 1) (.mk 4 0 0 0 0 l) = joinT [124] (l.map (argT (showR d) 2))) := by simp [Hid, showR]
  have HC : Hid (Calls Tryz.prog 137 #[.slice la l.length lcap, .string ⟨#[124]⟩, .int .i64 2] w1 (StrQ (joinT [124] (l.map (argT (showR d) 2))) w1)) := by
   obtain ⟨cs, hl, hL⟩ := rdp_list HP.out
   exact listR_any d IH.out l ⟨#[124]⟩ (by decide) 2 (by decide) _ cs w1 (hl.below HB.out) (fun i hi => (hL i hi).stays HB.out) HKS.out (by
    have := HZ.out
    rw [HT.out] at this
    exact this)
  generalize showR (d + 1) (.mk 4 0 0 0 0 l) = T at *
  generalize joinT [124] (l.map (argT (showR d) 2)) = U at *
  clear hn HKS HP IH HFM HZ
  go_wp2_with fail
  refine HC.out.mono ?_
  rintro e w2 ⟨⟨u, rfl, hu⟩, hb⟩
  have HU := Lib.hid hu
  have HB2 := Lib.hid (HB.out.trans (hb.mono HB.out.size))
  clear hu hb HC
  go_wp2_with fail
  go_ret
  exact ⟨⟨u, rfl, by rw [HU.out, HT.out]⟩, HB2.out⟩
 ·subst h0 e1 e2 e3 e4
  have HT : Hid (showR (d + 1) (.mk 6 0 0 0 0 l) = joinT [38] (l.map (argT (showR d) 3))) := by simp [Hid, showR]
  have HC : Hid (Calls Tryz.prog 137 #[.slice la l.length lcap, .string ⟨#[38]⟩, .int .i64 3] w1 (StrQ (joinT [38] (l.map (argT (showR d) 3))) w1)) := by
   obtain ⟨cs, hl, hL⟩ := rdp_list HP.out
   exact listR_any d IH.out l ⟨#[38]⟩ (by decide) 3 (by decide) _ cs w1 (hl.below HB.out) (fun i hi => (hL i hi).stays HB.out) HKS.out (by
    have := HZ.out
    rw [HT.out] at this
    exact this)
  generalize showR (d + 1) (.mk 6 0 0 0 0 l) = T at *
  generalize joinT [38] (l.map (argT (showR d) 3)) = U at *
  clear hn HKS HP IH HFM HZ
  go_wp2_with fail
  refine HC.out.mono ?_
  rintro e w2 ⟨⟨u, rfl, hu⟩, hb⟩
  have HU := Lib.hid hu
  have HB2 := Lib.hid (HB.out.trans (hb.mono HB.out.size))
  clear hu hb HC
  go_wp2_with fail
  go_ret
  exact ⟨⟨u, rfl, by rw [HU.out, HT.out]⟩, HB2.out⟩
 ·subst h0 e1 e2
  obtain ⟨q, rfl⟩ := List.length_eq_one_iff.1 hn
  obtain ⟨g, o, cq, hgo, hc6, hrq⟩ := RdP.part HP.out HB.out 0 (by simp)
  obtain ⟨qa, qcap, hqa⟩ := hrq.forms
  have HGL : Hid (g < w.heap.size) := by
   obtain ⟨cs, hl, hL⟩ := rdp_list HP.out
   obtain ⟨_, _, he, _, _, _, h3⟩ := hl
   obtain ⟨_, _, e, h, _⟩ := h3 (by simp)
   cases he
   rw [hgo] at e
   cases e
   exact h
  have hc6' : ∀ j, j < 6 → w1.cell? ⟨g, o + j, none⟩ = (PC.cells cq)[j]? := by
   intro j hj
   have := hc6 j hj
   rw [Nat.zero_mul, Nat.add_zero] at this
   exact this
  subst hgo
  have HT : Hid (showR (d + 1) (.mk 5 0 0 c3 c4 [q]) = argT (showR d) 5 q ++ bndT c3 c4) := by simp [Hid, showR, joinT]
  have hlen : (argT (showR d) 5 q).length + (bndT c3 c4).length ≤ 1000000000 := by
   have := HZ.out
   rw [HT.out, List.length_append] at this
   exact this
  have HC := Lib.hid (argR_any d IH.out q 5 (by decide) cq w1.drew (hrq.stays (below_drewN (Below.refl _ _) 1)) (HKS.out q (by simp)) (by omega))
  have HBD := Lib.hid (fun w' => boundsR_any c3 c4 ⟨h1, h2⟩ (by omega) w')
  generalize showR (d + 1) (.mk 5 0 0 c3 c4 [q]) = T at *
  have HLN := Lib.hid hlen
  rw [show ([q] : List RX)[0].args.length = q.args.length from rfl] at hqa
  generalize argT (showR d) 5 q = U at *
  generalize bndT c3 c4 = V at *
  generalize q.args.length = qn at *
  obtain ⟨q0, q1, q2, q3, q4, q5⟩ := cq
  simp only at hqa
  subst hqa
  have HC6 : Hid (∀ j, j < 6 → w1.drew.cell? ⟨g, o + j, none⟩ = (PC.cells ⟨q0, q1, q2, q3, q4, .slice qa qn qcap⟩)[j]?) := hc6'
  rw [show ([q] : List RX).length = 1 from rfl] at *
  clear hn HKS HP IH HFM HZ hrq hc6 hc6' hlen h1 h2 h3
  go_upto_region 19 with fail
  have hS0 : BoxP w.heap.size ⟨5, 0, 0, c3, c4, .slice (some ⟨g, o, none⟩) 1 lcap⟩ w1.drew := HX.out
  have HBw : Hid (Below w.heap.size w w1.drew) := HB.out.trans ((below_drewN (Below.refl w1.heap.size w1) 1).mono HB.out.size)
  refine wpq_region (fun w' => BoxP w.heap.size ⟨5, 0, 0, c3, c4, .slice (some ⟨g, o, none⟩) 1 lcap⟩ w' ∧ Hid (∀ j, j < 6 → w'.cell? ⟨g, o + j, none⟩ = (PC.cells ⟨q0, q1, q2, q3, q4, .slice qa qn qcap⟩)[j]?)) 11 (by kernel_rfl) ⟨hS0, HC6⟩ (fun hHeld => ?_)
  clear hS0 HC6 HX HB t0 t1 t2 t3 t4 t5
  generalize w1.drew = wd at *
  refine wpq_tk 0 (some 60) [11] (Or.inl ⟨by rfl, fun w hSw => by (obtain ⟨x0, x1, x2, x3, x4, x5⟩ := BoxP.cells hSw.1; obtain ⟨z0, z1, z2, z3, z4, z5⟩ := cells6 hSw.2.out; simp only at x0 x1 x2 x3 x4 x5 z0 z1 z2 z3 z4 z5; go_simp; with_reducible rfl)⟩) hHeld ?_ rfl rfl
  simp only [Act.put, sA, sZ, sS]
  refine wpq_tk 1 (some 61) [11] (Or.inl ⟨by rfl, fun w hSw => by (obtain ⟨x0, x1, x2, x3, x4, x5⟩ := BoxP.cells hSw.1; obtain ⟨z0, z1, z2, z3, z4, z5⟩ := cells6 hSw.2.out; simp only at x0 x1 x2 x3 x4 x5 z0 z1 z2 z3 z4 z5; go_simp; with_reducible rfl)⟩) hHeld ?_ rfl rfl
  simp only [Act.put, sA, sZ, sS]
  refine wpq_tk 2 (some 62) [11] (Or.inl ⟨by rfl, fun w hSw => by (obtain ⟨x0, x1, x2, x3, x4, x5⟩ := BoxP.cells hSw.1; obtain ⟨z0, z1, z2, z3, z4, z5⟩ := cells6 hSw.2.out; simp only at x0 x1 x2 x3 x4 x5 z0 z1 z2 z3 z4 z5; go_simp; with_reducible rfl)⟩) hHeld ?_ rfl rfl
  simp only [Act.put, sA, sZ, sS]
  refine wpq_tk 3 (some 63) [11] (Or.inl ⟨by rfl, fun w hSw => by (obtain ⟨x0, x1, x2, x3, x4, x5⟩ := BoxP.cells hSw.1; obtain ⟨z0, z1, z2, z3, z4, z5⟩ := cells6 hSw.2.out; simp only at x0 x1 x2 x3 x4 x5 z0 z1 z2 z3 z4 z5; go_simp; with_reducible rfl)⟩) hHeld ?_ rfl rfl
  simp only [Act.put, sA, sZ, sS]
  refine wpq_tk 5 (some 65) [11] (Or.inl ⟨by rfl, fun w hSw => by (obtain ⟨x0, x1, x2, x3, x4, x5⟩ := BoxP.cells hSw.1; obtain ⟨z0, z1, z2, z3, z4, z5⟩ := cells6 hSw.2.out; simp only at x0 x1 x2 x3 x4 x5 z0 z1 z2 z3 z4 z5; go_simp; with_reducible rfl)⟩) hHeld ?_ rfl rfl
  simp only [Act.put, sA, sZ, sS]
  refine wpq_tk 6 (some 66) [11] (Or.inl ⟨by rfl, fun w hSw => by (obtain ⟨x0, x1, x2, x3, x4, x5⟩ := BoxP.cells hSw.1; obtain ⟨z0, z1, z2, z3, z4, z5⟩ := cells6 hSw.2.out; simp only at x0 x1 x2 x3 x4 x5 z0 z1 z2 z3 z4 z5; go_simp; with_reducible rfl)⟩) hHeld ?_ rfl rfl
  simp only [Act.put, sA, sZ, sS]
  refine wpq_tk 7 (some 67) [11] (Or.inl ⟨by rfl, fun w hSw => by (obtain ⟨x0, x1, x2, x3, x4, x5⟩ := BoxP.cells hSw.1; obtain ⟨z0, z1, z2, z3, z4, z5⟩ := cells6 hSw.2.out; simp only at x0 x1 x2 x3 x4 x5 z0 z1 z2 z3 z4 z5; go_simp; with_reducible rfl)⟩) hHeld ?_ rfl rfl
  simp only [Act.put, sA, sZ, sS]
  refine wpq_tk 8 (some 68) [11] (Or.inl ⟨by rfl, fun w hSw => by (obtain ⟨x0, x1, x2, x3, x4, x5⟩ := BoxP.cells hSw.1; obtain ⟨z0, z1, z2, z3, z4, z5⟩ := cells6 hSw.2.out; simp only at x0 x1 x2 x3 x4 x5 z0 z1 z2 z3 z4 z5; go_simp; with_reducible rfl)⟩) hHeld ?_ rfl rfl
  simp only [Act.put, sA, sZ, sS]
  refine wpq_one 4 (by kernel_rfl) rfl (fun K hK => ?_)
  go_simp
  refine HC.out.mono ?_
  rintro e wd2 ⟨⟨u, rfl, hu⟩, hb⟩
  have HU := Lib.hid hu
  have hsu : u.size = U.length := by rw [← L_len, hu]
  have hS1 : BoxP w.heap.size ⟨5, 0, 0, c3, c4, .slice (some ⟨g, o, none⟩) 1 lcap⟩ wd2 := hHeld.1.below hb
  have HC7 : Hid (∀ j, j < 6 → wd2.cell? ⟨g, o + j, none⟩ = (PC.cells ⟨q0, q1, q2, q3, q4, .slice qa qn qcap⟩)[j]?) := fun j hj => (hb.cell (p := ⟨g, o + j, none⟩) (Nat.lt_of_lt_of_le HGL.out HBw.out.size)).trans (hHeld.2.out j hj)
  have HB3 := Lib.hid (HBw.out.trans (hb.mono HBw.out.size))
  clear hu hb HBw hHeld HC
  have HBw := HB3
  clear HB3
  generalize wd2 = wd at *
  refine hK.out _ _ ⟨hS1, HC7⟩ (fun hHeld => ?_)
  clear hK K hS1 HC7
  refine wpq_one 9 (by kernel_rfl) rfl (fun K hK => ?_)
  go_simp
  refine (HBD.out _).mono ?_
  rintro e wd2 ⟨⟨u2, rfl, hu⟩, hb⟩
  have HU2 := Lib.hid hu
  have hsu2 : u2.size = V.length := by rw [← L_len, hu]
  have hS1 : BoxP w.heap.size ⟨5, 0, 0, c3, c4, .slice (some ⟨g, o, none⟩) 1 lcap⟩ wd2 := hHeld.1.below hb
  have HC7 : Hid (∀ j, j < 6 → wd2.cell? ⟨g, o + j, none⟩ = (PC.cells ⟨q0, q1, q2, q3, q4, .slice qa qn qcap⟩)[j]?) := fun j hj => (hb.cell (p := ⟨g, o + j, none⟩) (Nat.lt_of_lt_of_le HGL.out HBw.out.size)).trans (hHeld.2.out j hj)
  have HB3 := Lib.hid (HBw.out.trans (hb.mono HBw.out.size))
  have hsz : u.size + u2.size ≤ 1000000000 := by rw [hsu, hsu2]; exact HLN.out
  clear hu hb HBw hHeld hsu hsu2 HBD
  have HBw := HB3
  clear HB3
  generalize wd2 = wd at *
  refine hK.out _ _ ⟨hS1, HC7⟩ (fun hHeld => ?_)
  clear hK K hS1 HC7
  refine wpq_tk 10 (some 70) [11] (Or.inl ⟨by rfl, fun w hSw => by (obtain ⟨x0, x1, x2, x3, x4, x5⟩ := BoxP.cells hSw.1; obtain ⟨z0, z1, z2, z3, z4, z5⟩ := cells6 hSw.2.out; simp only at x0 x1 x2 x3 x4 x5 z0 z1 z2 z3 z4 z5; go_simp; rw [if_neg (by first | omega | (simp only [ByteArray.size_append]; omega) | (simp; omega))])⟩) hHeld ?_ rfl rfl
  simp only [Act.put, sA, sZ, sS]
  refine wpq_end 11 (by kernel_rfl) rfl (by kernel_rfl) (fun K hK => ?_)
  go_simp
  refine hK.out _ _ ?_
  clear hK K
  refine wpq_done (by kernel_rfl) ?_ _
  go_simp
  go_wp2_with fail
  go_ret
  exact ⟨⟨_, rfl, by rw [HT.out, L_append, HU.out, HU2.out]⟩, HBw.out⟩
 ·subst h0 e1 e2 e3 e4
  obtain ⟨q, rfl⟩ := List.length_eq_one_iff.1 hn
  obtain ⟨g, o, cq, hgo, hc6, hrq⟩ := RdP.part HP.out HB.out 0 (by simp)
  obtain ⟨qa, qcap, hqa⟩ := hrq.forms
  have HGL : Hid (g < w.heap.size) := by
   obtain ⟨cs, hl, hL⟩ := rdp_list HP.out
   obtain ⟨_, _, he, _, _, _, h3⟩ := hl
   obtain ⟨_, _, e, h, _⟩ := h3 (by simp)
   cases he
   rw [hgo] at e
   cases e
   exact h
  have hc6' : ∀ j, j < 6 → w1.cell? ⟨g, o + j, none⟩ = (PC.cells cq)[j]? := by
   intro j hj
   have := hc6 j hj
   rw [Nat.zero_mul, Nat.add_zero] at this
   exact this
  subst hgo
  have HT : Hid (showR (d + 1) (.mk 7 0 0 0 0 [q]) = 33 :: argT (showR d) 4 q) := by simp [Hid, showR, joinT]
  have hlen : (argT (showR d) 4 q).length ≤ 1000000000 := by
   have := HZ.out
   rw [HT.out, List.length_cons] at this
   omega
  have HC := Lib.hid (argR_any d IH.out q 4 (by decide) cq w1 hrq (HKS.out q (by simp)) hlen)
  generalize showR (d + 1) (.mk 7 0 0 0 0 [q]) = T at *
  have HLN := Lib.hid hlen
  rw [show ([q] : List RX)[0].args.length = q.args.length from rfl] at hqa
  generalize argT (showR d) 4 q = U at *
  generalize q.args.length = qn at *
  obtain ⟨q0, q1, q2, q3, q4, q5⟩ := cq
  simp only at hqa
  subst hqa
  obtain ⟨b0, b1, b2, b3, b4, b5⟩ := cells6 hc6'
  simp only at b0 b1 b2 b3 b4 b5
  rw [show ([q] : List RX).length = 1 from rfl] at *
  clear hn HKS HP IH HFM HZ hrq hc6 hc6' hlen
  go_wp2_with fail
  refine HC.out.mono ?_
  rintro e w2 ⟨⟨u, rfl, hu⟩, hb⟩
  have HU := Lib.hid hu
  have HB2 := Lib.hid (HB.out.trans (hb.mono HB.out.size))
  have hsz : u.size ≤ 1000000000 := by rw [← L_len, hu]; exact HLN.out
  clear hu hb HC
  go_wp2_with fail
  go_ret
  exact ⟨⟨_, rfl, by rw [HT.out, L_append, HU.out]; rfl⟩, HB2.out⟩
theorem show_all : ∀ d, ShwC d
 | 0 => fun _ _ _ _ h _ => by cases h
 | d + 1 => show_next d (show_all d)
theorem RText_any (p : RX) (c : PC) (w : World) (hp : RdP w c p) (hz : valR p = true → (showR 48 p).length ≤ 1000000000) :
  Calls Tryz.prog 69 #[aggP c] w (StrQ (textR p) w) := by
 have HT : Hid (textR p = if valR p then showR 48 p else []) := rfl
 have HZ := Lib.hid hz
 have HP := Lib.hid hp
 have HC := Lib.hid (fun w' (hb : Below w.heap.size w w') (hv : valR p = true) => show_all 48 p c w' (hp.stays hb) (val_parts hv).1 (hz hv))
 have HV := Lib.hid (fun w' (hb : Below w.heap.size w w') => RValid_any p c w' (hp.stays hb))
 obtain ⟨la, lcap, hla⟩ := hp.forms
 obtain ⟨c0, c1, c2, c3, c4, c5⟩ := c
 simp only at hla
 generalize textR p = T at *
 generalize showR 48 p = U at *
 generalize p.args.length = n at *
 subst hla
 simp only [aggP]
 clear hp hz
 go_enter Tryz.func69, Tryz.ntmps69
 go_upto_region 1 with fail
 generalize hW : World.alloc w _ = w1
 obtain ⟨ha, -, hz1, hb1⟩ := alloc_of hW
 have HX := Lib.hid (show BoxP w.heap.size ⟨c0, c1, c2, c3, c4, .slice la n lcap⟩ w1 from ha)
 have HB := Lib.hid hb1
 clear hW ha hz1 hb1
 obtain ⟨t0, t1, t2, t3, t4, t5⟩ := HX.out.cells
 simp only at t0 t1 t2 t3 t4 t5
 go_wp2_with fail
 refine (HV.out w1 HB.out).mono ?_
 rintro e w2 ⟨rfl, hb⟩
 have HB2 := Lib.hid (HB.out.trans (hb.mono HB.out.size))
 have HX2 := Lib.hid (HX.out.below hb)
 clear hb t0 t1 t2 t3 t4 t5 HX HB
 obtain ⟨t0, t1, t2, t3, t4, t5⟩ := HX2.out.cells
 simp only at t0 t1 t2 t3 t4 t5
 cases hval : valR p with
 | false =>
  have HF : Hid (T = []) := by unfold Hid; rw [HT.out, hval]; rfl
  go_wp2_with fail
  go_ret
  exact ⟨⟨_, rfl, by rw [HF.out]; rfl⟩, HB2.out⟩
 | true =>
  have HF : Hid (T = U) := by unfold Hid; rw [HT.out, hval]; rfl
  have HCC := Lib.hid (fun w' hb => HC.out w' hb hval)
  clear hval HC HZ HT
  go_wp2_with fail
  refine (HCC.out w2 HB2.out).mono ?_
  rintro e w3 ⟨⟨u, rfl, hu⟩, hb⟩
  have HU := Lib.hid hu
  have HB3 := Lib.hid (HB2.out.trans (hb.mono HB2.out.size))
  clear hu hb
  go_wp2_with fail
  go_ret
  exact ⟨⟨u, rfl, by rw [HU.out, HF.out]⟩, HB3.out⟩
end Go.Proofs.YtpkecepelcppiaaGreatDoor
