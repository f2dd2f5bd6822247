/- datakitlaw15.awake walked. Conditions: the value of strconv.ErrSyntax. -/
import Derived.Test.YtpkecepelcppiaaGreatDoorZa35
import Derived.Test.YtpkecepelcppiaaGreatDoorZa2
import Derived.Test.YtpkecepelcppiaaGreatDoorZa31
import Derived.Test.YtpkecepelcppiaaGreatDoorZa34
import Derived.Test.YtpkecepelcppiaaGreatDoorZa29
import Derived.Test.YtpkecepelcppiaaGreatDoorZa19
import Derived.Test.YtpkecepelcppiaaGreatDoorZa1
namespace Go.Proofs.YtpkecepelcppiaaGreatDoor
open Go.RowKit Go.Shelf
set_option maxHeartbeats 4000000
set_option maxRecDepth 100000

structure FinI (s : ByteArray) (m : Nat) (O : Option (RX × List UInt8)) (J : RX) (k : Nat) (b : Bool) : Prop where
 le : k ≤ s.size + m
 tru : b = true → k ≤ s.size ∧ O = some (J, (L s).drop k)
 fls : b = false → O = none
theorem FinI.fin {s : ByteArray} {m : Nat} {O : Option (RX × List UInt8)} {J : RX} {k : Nat} {b : Bool} : FinI s m O J k b →
  match O with
  | some x => b = true ∧ J = x.1 ∧ k ≤ s.size ∧ (L s).drop k = x.2
  | none => b = false := by
 intro h
 cases b with
 | true =>
  obtain ⟨h1, h2⟩ := h.tru rfl
  rw [h2]
  exact ⟨rfl, rfl, h1, rfl⟩
 | false =>
  rw [h.fls rfl]
structure LoopI (s : ByteArray) (m : Nat) (O : Option (RX × List UInt8)) (G : List RX → List UInt8 → Option (RX × List UInt8)) (ps : List RX) (k : Nat) (b : Bool) : Prop where
 le : k ≤ s.size + m
 tru : b = true → ps.length ≤ k ∧ k ≤ s.size ∧ O = G ps ((L s).drop k)
 fls : b = false → O = none
theorem next_of {P : List UInt8 → Option (RX × List UInt8)} (he : Eats P) {s : ByteArray} {m k k' : Nat} {b' : Bool} {q : RX} {op : Int} {sep : Option UInt8} {ps : List RX} {O : Option (RX × List UInt8)} (hk : k ≤ s.size) (hps : ps.length ≤ k)
  (hO : O = catG op sep P ps ((L s).drop k)) (hm : k' ≤ s.size + m) (hr : match P ((L s).drop k) with | some x => b' = true ∧ q = x.1 ∧ k' ≤ s.size ∧ (L s).drop k' = x.2 | none => b' = false) :
  LoopI s m O (headG op sep P) (ps ++ [q]) k' b' ∧ (b' = true → k < k') := by
 cases hp : P ((L s).drop k) with
 | none =>
  rw [hp] at hr
  subst hr
  exact ⟨⟨hm, fun h => (by cases h), fun _ => hO.trans (catG_none hp)⟩, fun h => (by cases h)⟩
 | some x =>
  rw [hp] at hr
  obtain ⟨p, r⟩ := x
  obtain ⟨rfl, rfl, h1, h2⟩ := hr
  have h3 := he _ _ _ hp
  dsimp only at h2
  rw [← h2, List.length_drop, List.length_drop, L_len] at h3
  refine ⟨⟨hm, fun _ => ⟨?_, h1, ?_⟩, fun h => (by cases h)⟩, fun _ => by omega⟩
  ·rw [List.length_append]
   simp only [List.length_cons, List.length_nil]
   omega
  ·rw [hO, catG_some he hp, ← h2]
def stpI (c : Int) : Bool := decide (c = -1 ∨ c = 124 ∨ c = 38 ∨ c = 41)
theorem LoopI.stop {s : ByteArray} {m : Nat} {O : Option (RX × List UInt8)} {P : List UInt8 → Option (RX × List UInt8)} {ps : List RX} {k : Nat} {b : Bool} {op : Int} (h : LoopI s m O (headG op none P) ps k b) (hs : stpI (hdI ((L s).drop k)) = true) : FinI s m O (joinP op ps) k b :=
 ⟨h.le, fun hb => ⟨(h.tru hb).2.1, (h.tru hb).2.2.trans (headG_cat.trans (if_pos (of_decide_eq_true hs)))⟩, h.fls⟩
theorem LoopI.goes {s : ByteArray} {m : Nat} {O : Option (RX × List UInt8)} {P : List UInt8 → Option (RX × List UInt8)} {ps : List RX} {k : Nat} {b : Bool} {op : Int} (h : LoopI s m O (headG op none P) ps k b) (hs : stpI (hdI ((L s).drop k)) = false) : LoopI s m O (catG op none P) ps k b :=
 ⟨h.le, fun hb => ⟨(h.tru hb).1, (h.tru hb).2.1, (h.tru hb).2.2.trans (headG_cat.trans (if_neg (of_decide_eq_false hs)))⟩, h.fls⟩
theorem LoopI.done {s : ByteArray} {m : Nat} {O : Option (RX × List UInt8)} {G : List RX → List UInt8 → Option (RX × List UInt8)} {ps : List RX} {k : Nat} {J : RX} (h : LoopI s m O G ps k false) : FinI s m O J k false :=
 ⟨h.le, fun hb => (by cases hb), h.fls⟩
theorem LoopI.sep {s : ByteArray} {m : Nat} {O : Option (RX × List UInt8)} {P : List UInt8 → Option (RX × List UInt8)} {ps : List RX} {k : Nat} {op : Int} {c : UInt8} (h : LoopI s m O (headG op (some c) P) ps k true) (hc : hdI ((L s).drop k) = (c.toNat : Int)) : ps.length ≤ k ∧ k + 1 ≤ s.size ∧ O = catG op (some c) P ps ((L s).drop (k + 1)) :=
 ⟨(h.tru rfl).1, hdI_lt (by omega), by rw [(h.tru rfl).2.2, headG_sep, if_pos hc, List.drop_drop]⟩
theorem LoopI.last {s : ByteArray} {m : Nat} {O : Option (RX × List UInt8)} {P : List UInt8 → Option (RX × List UInt8)} {ps : List RX} {k : Nat} {op : Int} {c : UInt8} (h : LoopI s m O (headG op (some c) P) ps k true) (hc : ¬ hdI ((L s).drop k) = (c.toNat : Int)) : FinI s m O (joinP op ps) k true :=
 ⟨h.le, fun _ => ⟨(h.tru rfl).2.1, by rw [(h.tru rfl).2.2, headG_sep, if_neg hc]⟩, fun h => (by cases h)⟩
def msr (n : Nat) (k b : Value) : Nat := match b with
 | .bool true => n + 1 - (intOf k).toNat
 | _ => 0
theorem msr_f (n : Nat) (k : Value) : msr n k (.bool false) = 0 := rfl
theorem msr_t (n k : Nat) : msr n (.int .i64 (k : Int)) (.bool true) = n + 1 - k := by
 show n + 1 - (Int.toNat (k : Int)) = _
 rw [Int.toNat_natCast]
theorem msr_lt {n k k' : Nat} {b : Bool} (hk : k ≤ n) (h : b = true → k < k') : msr n (.int .i64 (k' : Int)) (.bool b) < msr n (.int .i64 (k : Int)) (.bool true) := by
 rw [msr_t]
 cases b with
 | true => rw [msr_t]; have := h rfl; omega
 | false => rw [msr_f]; omega
theorem OwnP.one_at {N : Nat → Prop} {w : World} {c : PC} {p : RX} {m : Nat} (hb : BoxP m c w) (hc : RdQ (fun x => N x ∧ x ≠ m) w c p) : OwnP N m w (.slice (some ⟨m, 0, none⟩) 1 1) [c] [p] := by
 refine ⟨⟨by rfl, .inr ⟨m, 1, c.cells.toArray, rfl, Nat.le_refl _, hb, Nat.le_refl _, by decide, rfl, by simp [PC.cells]⟩⟩, rfl, fun i h1 h2 => ?_⟩
 have hi0 : i = 0 := by simp at h1; omega
 subst hi0
 refine hc.mono (fun g h _ => ⟨h.1, fun he => h.2 ?_⟩)
 cases he
 rfl
theorem grown_below {w w' : World} {v : Value} {B : Nat} (hg : w.grownBy w' v.ownBlock) (hv : ∀ x, v.ownBlock = some x → B ≤ x) (hB : B ≤ w.heap.size) : Below B w w' :=
 ⟨hg.os, hg.tape, hg.output, hg.size, fun x hx => hg.block x (Nat.lt_of_lt_of_le hx hB) (fun he => by have := hv x he.symm; omega)⟩
theorem Rcat_any (s : ByteArray) (left : Int) (P : List UInt8 → Option (RX × List UInt8)) (heat : Eats P) (m : Nat) (hs : s.size ≤ 100000000) (hm : m ≤ 200)
  (hnot : ∀ (i : Nat) (w : World), i ≤ s.size → Calls Tryz.prog 156 #[.string s, .int .i64 (i : Int), .int .i64 left] w (ParO s m (P ((L s).drop i)) w))
  (i : Nat) (w : World) (hi : i ≤ s.size) : Calls Tryz.prog 135 #[.string s, .int .i64 (i : Int), .int .i64 left] w (ParO s m (infP 3 none P ((L s).drop i)) w) := by
 have HS := Lib.hid hs
 have HI := Lib.hid hi
 have HM := Lib.hid hm
 have HNOT := Lib.hid hnot
 have HEAT := Lib.hid heat
 have HO := Lib.hid (inf_cat 3 none P ((L s).drop i))
 generalize infP 3 none P ((L s).drop i) = O at *
 have HA := Lib.hid (fun (k : Nat) (hk : k ≤ s.size + m) w' => at_any s k HS.out (by have := HS.out; have := HM.out; omega) w')
 clear hs hi hm hnot heat
 go_enter Tryz.func135, Tryz.ntmps135
 go_upto_region 1 with fail
 generalize hW : World.alloc w _ = w1
 obtain ⟨ha, -, hz1, hb1⟩ := alloc_of hW
 have HX := Lib.hid (show BoxP w.heap.size ⟨0, 0, 0, 0, 0, .slice none 0 0⟩ w1 from ha)
 have HB := Lib.hid hb1
 have HNN : Hid (∀ g, w.heap.size < g → w.heap.size < g) := fun g h => h
 have HNB : Hid (∀ g, w.heap.size + 1 ≤ g → w.heap.size < g) := fun g h => h
 clear hW ha hz1 hb1
 go_wp2_with fail
 go_loopw [9, 10, 11] (fun lv kv bv wr => ∃ (k : Nat) (b : Bool) (A : Option Addr) (cap : Nat) (cs : List PC) (ps : List RX), kv = .int .i64 (k : Int) ∧ bv = .bool b ∧ lv = .slice A cs.length cap ∧ Hid (OwnP (fun g => w.heap.size < g) (w.heap.size + 1) wr (.slice A cs.length cap) cs ps) ∧ Hid (LoopI s m O (catG 3 none P) ps k b) ∧ Hid (BoxP w.heap.size ⟨0, 0, 0, 0, 0, .slice none 0 0⟩ wr) ∧ Hid (Below w.heap.size w wr)) (fun _ kv bv _ => msr s.size kv bv)
 case atStart => exact ⟨i, true, none, 0, [], [], rfl, rfl, rfl, OwnP.nil _ _ _, ⟨by have := HI.out; omega, fun _ => ⟨Nat.zero_le _, HI.out, HO.out⟩, fun h => (by cases h)⟩, HX.out, HB.out⟩
 case round =>
  clear HX HB HO HI
  obtain ⟨k, b, A, cap, cs, ps, rfl, rfl, rfl, HOW, HLI, HX, HB⟩ := hrel
  cases b with
  | false =>
   have HF := Lib.hid (HLI.out.done (J := joinP 3 ps))
   have HRL : Hid (RdL (fun g => w.heap.size < g) wr (.slice A cs.length cap) (ps)) := (HOW.out.mono (M := fun g => w.heap.size < g) (fun g h => HNN.out g h)).node2 (fun g hg => HNB.out g (HOW.out.1.lt g hg).1) 0 0 0 0 0
   have HJ := Lib.hid (joined_any _ 3 _ _ wr HRL.out)
   clear HOW
   go_wp2_with fail
   refine HJ.out.mono ?_
   rintro e w8 ⟨d, rfl, hq, hb⟩
   have HXL := Lib.hid HX.out.lt
   replace HX := Lib.hid (HX.out.below hb)
   replace HB := Lib.hid (HB.out.trans (hb.mono HB.out.size))
   have HQ := Lib.hid (hq.mono (M := fun g => w.heap.size < g) (fun g h _ => by rcases h with h | h; exact h; exact Nat.lt_of_lt_of_le HXL.out h))
   obtain ⟨fa, fcap, hfa⟩ := hq.rd.forms
   generalize joinP 3 (ps) = J at *
   generalize J.args.length = rn at *
   obtain ⟨q0, q1, q2, q3, q4, q5⟩ := d
   simp only at hfa
   subst hfa
   clear hb hq HRL HJ
   obtain ⟨z0, z1, z2, z3, z4, z5⟩ := HX.out.cells
   obtain ⟨y0, y1, y2, y3, y4, y5⟩ := HX.out.free
   simp only at z0 z1 z2 z3 z4 z5
   simp only [aggP]
   go_wp2_with fail
   generalize hW : World.setCell _ _ _ = w9
   obtain ⟨hbx, hq, hb⟩ := par_fin (d := ⟨q0, q1, q2, q3, q4, .slice fa rn fcap⟩) HX.out HB.out HQ.out hW
   obtain ⟨s0, s1, s2, s3, s4, s5⟩ := hbx.cells
   refine bodyPost_ret (v := .tuple #[aggP ⟨q0, q1, q2, q3, q4, .slice fa rn fcap⟩, .int .i64 ((k : Nat) : Int), .bool false]) (by simp only at s0 s1 s2 s3 s4 s5; simp [results, Tryz.results135, go_sem, s0, s1, s2, s3, s4, s5]) rfl ⟨_, _, k, false, rfl, hq, hb, HF.out.le, HF.out.fin⟩
  | true =>
   have HT := Lib.hid (HLI.out.tru rfl)
   have HC0 := Lib.hid (fun w' => HNOT.out k w' HT.out.2.1)
   have HOWL := Lib.hid (fun g (h : (Value.slice A cs.length cap).ownBlock = some g) => (HOW.out.1.lt g h).2)
   go_upto_region 5 with fail
   generalize hW : World.alloc wr _ = w3
   obtain ⟨ha, -, hz1, hb1⟩ := alloc_of hW
   have HP := Lib.hid (show BoxP wr.heap.size ⟨0, 0, 0, 0, 0, .slice none 0 0⟩ w3 from ha)
   have HZ := Lib.hid hz1
   have HW := Lib.hid hb1
   clear hW ha hz1 hb1
   go_wp2_with fail
   refine (HC0.out w3).mono ?_
   rintro e w4 ⟨c, q, k2, b2, rfl, hq, hb, hk2, hr⟩
   replace HP := Lib.hid (HP.out.below hb)
   replace HW := Lib.hid (HW.out.trans (hb.mono (by have := HZ.out; omega)))
   have HN := Lib.hid (next_of HEAT.out HT.out.2.1 HT.out.1 HT.out.2.2 hk2 hr)
   have HC := Lib.hid (hq.mono (M := fun g => wr.heap.size < g) (fun g h _ => by have := HZ.out; omega))
   obtain ⟨pa, pcap, hpa⟩ := hq.rd.forms
   generalize q.args.length = pn at *
   obtain ⟨p0, p1, p2, p3, p4, p5⟩ := c
   simp only at hpa
   subst hpa
   clear hb hq hr hk2 HC0
   obtain ⟨z0, z1, z2, z3, z4, z5⟩ := HP.out.cells
   obtain ⟨y0, y1, y2, y3, y4, y5⟩ := HP.out.free
   simp only at z0 z1 z2 z3 z4 z5
   simp only [aggP]
   go_upto_region 6 with fail
   generalize hW : World.setCell _ _ _ = w5
   obtain ⟨hb1, hb2⟩ := HP.out.set (d := ⟨p0, p1, p2, p3, p4, .slice pa pn pcap⟩) hW
   have hot := set6_other hW
   replace HC := Lib.hid (HC.out.keep (w' := w5) (fun x hx _ => hot x (by omega)))
   replace HW := Lib.hid (HW.out.trans hb2)
   replace HP := Lib.hid hb1
   have HXL := Lib.hid HX.out.lt
   replace HOW := Lib.hid (HOW.out.keep2 (w' := w5) (fun g _ hg => HW.out.block g hg))
   replace HX := Lib.hid (HX.out.below HW.out)
   have HBS := Lib.hid HB.out.size
   replace HB := Lib.hid (HB.out.trans (HW.out.mono HB.out.size))
   clear hW hb1 hb2 hot z0 z1 z2 z3 z4 z5 y0 y1 y2 y3 y4 y5
   obtain ⟨z0, z1, z2, z3, z4, z5⟩ := HP.out.cells
   obtain ⟨y0, y1, y2, y3, y4, y5⟩ := HP.out.free
   simp only at z0 z1 z2 z3 z4 z5
   go_upto_region 7 with (at_builtin; refine wpl_pushP (N := fun g => w.heap.size < g) (B := w.heap.size + 1) (c := ⟨p0, p1, p2, p3, p4, .slice pa pn pcap⟩) (p := q) (v := .slice A cs.length cap) (cs := cs) (ps := ps) _ _ rfl rfl HOW.out (HC.out.mono (fun g hg _ => ⟨Nat.lt_of_le_of_lt HBS.out hg, fun he => by have := HOWL.out g he.symm; omega⟩)) rfl rfl rfl (by have := HT.out; have := HS.out; have := HOW.out.2.1; omega) (by have := HX.out.lt; omega) ?_; intro v3 w6 hown3 hg3 hfm3 hat3; obtain ⟨A3, cap3, rfl⟩ := hfm3)
   have hgb := grown_below hg3 (fun x hx => (HOW.out.1.lt x hx).1) (B := w.heap.size + 1) HX.out.lt
   replace HX := Lib.hid (show BoxP w.heap.size ⟨0, 0, 0, 0, 0, .slice none 0 0⟩ w6 from (hgb.block _ (Nat.lt_succ_self _)).trans HX.out)
   replace HB := Lib.hid (HB.out.trans (hgb.mono (Nat.le_succ _)))
   replace HOW := Lib.hid hown3
   have HAK := Lib.hid (HA.out k2 HN.out.1.le)
   have hki : (k2 : Int) ≤ 100000200 := by have := HS.out; have := HM.out; have := HN.out.1.le; omega
   have HK := Lib.hid HT.out.2.1
   clear hgb hown3 hg3 hat3 HP HC HW HT HLI HOWL HBS HXL HZ z0 z1 z2 z3 z4 z5 y0 y1 y2 y3 y4 y5
   go_wp2_with fail
   refine (HAK.out w6).mono ?_
   rintro e wx ⟨rfl, rfl⟩
   have HSC := Lib.hid (LoopI.stop HN.out.1)
   have HGO := Lib.hid (LoopI.goes HN.out.1)
   have HLT := Lib.hid HN.out.2
   have HLE := Lib.hid (hdI_le ((L s).drop k2))
   clear HAK HN
   generalize hdI ((L s).drop k2) = c at *
   go_upto_region 8 with fail
   go_cut [44] (fun v wx => v = .bool (stpI c) ∧ w6 = wx)
   case first =>
    clear HSC HGO
    by_cases e1 : c = -1
    ·subst e1
     go_wp2_with fail
     go_meet
     exact ⟨rfl, rfl⟩
    have t1 : (c == -1) = false := beq_false_of_ne e1
    by_cases e2 : c = 124
    ·subst e2
     go_wp2_with fail
     go_meet
     exact ⟨rfl, rfl⟩
    have t2 : (c == 124) = false := beq_false_of_ne e2
    by_cases e3 : c = 38
    ·subst e3
     go_wp2_with fail
     go_meet
     exact ⟨rfl, rfl⟩
    have t3 : (c == 38) = false := beq_false_of_ne e3
    by_cases e4 : c = 41
    ·subst e4
     go_wp2_with fail
     go_meet
     exact ⟨rfl, rfl⟩
    have t4 : (c == 41) = false := beq_false_of_ne e4
    have HF : Hid (stpI c = false) := decide_eq_false (by omega)
    clear e1 e2 e3 e4
    go_wp2_with fail
    go_meet
    exact ⟨by rw [HF.out], rfl⟩
   case rest =>
    obtain ⟨rfl, rfl⟩ := hcut
    cases hst : stpI c with
    | true =>
     have HF := Lib.hid (HSC.out hst)
     clear HSC HGO hst
     have HRL : Hid (RdL (fun g => w.heap.size < g) w6 (.slice A3 (cs.length + 1) cap3) (ps ++ [q])) := (HOW.out.mono (M := fun g => w.heap.size < g) (fun g h => HNN.out g h)).node2 (fun g hg => HNB.out g (HOW.out.1.lt g hg).1) 0 0 0 0 0
     have HJ := Lib.hid (joined_any _ 3 _ _ w6 HRL.out)
     clear HOW
     go_wp2_with fail
     refine HJ.out.mono ?_
     rintro e w8 ⟨d, rfl, hq, hb⟩
     have HXL := Lib.hid HX.out.lt
     replace HX := Lib.hid (HX.out.below hb)
     replace HB := Lib.hid (HB.out.trans (hb.mono HB.out.size))
     have HQ := Lib.hid (hq.mono (M := fun g => w.heap.size < g) (fun g h _ => by rcases h with h | h; exact h; exact Nat.lt_of_lt_of_le HXL.out h))
     obtain ⟨fa, fcap, hfa⟩ := hq.rd.forms
     generalize joinP 3 (ps ++ [q]) = J at *
     generalize J.args.length = rn at *
     obtain ⟨q0, q1, q2, q3, q4, q5⟩ := d
     simp only at hfa
     subst hfa
     clear hb hq HRL HJ
     obtain ⟨z0, z1, z2, z3, z4, z5⟩ := HX.out.cells
     obtain ⟨y0, y1, y2, y3, y4, y5⟩ := HX.out.free
     simp only at z0 z1 z2 z3 z4 z5
     simp only [aggP]
     go_wp2_with fail
     generalize hW : World.setCell _ _ _ = w9
     obtain ⟨hbx, hq, hb⟩ := par_fin (d := ⟨q0, q1, q2, q3, q4, .slice fa rn fcap⟩) HX.out HB.out HQ.out hW
     obtain ⟨s0, s1, s2, s3, s4, s5⟩ := hbx.cells
     refine bodyPost_ret (v := .tuple #[aggP ⟨q0, q1, q2, q3, q4, .slice fa rn fcap⟩, .int .i64 ((k2 : Nat) : Int), .bool b2]) (by simp only at s0 s1 s2 s3 s4 s5; simp [results, Tryz.results135, go_sem, s0, s1, s2, s3, s4, s5]) rfl ⟨_, _, k2, b2, rfl, hq, hb, HF.out.le, HF.out.fin⟩
    | false =>
     have HG := Lib.hid (HGO.out hst)
     clear HSC HGO hst
     go_wp2_with fail
     exact ⟨⟨k2, b2, A3, cap3, cs ++ [_], ps ++ [q], rfl, rfl, by simp, by unfold Hid; simpa using HOW.out, HG.out, HX.out, HB.out⟩, msr_lt HK.out HLT.out⟩
theorem Rand_any (s : ByteArray) (left : Int) (P : List UInt8 → Option (RX × List UInt8)) (heat : Eats P) (m : Nat) (hs : s.size ≤ 100000000) (hm : m ≤ 200)
  (hsub : ∀ (i : Nat) (w : World), i ≤ s.size → Calls Tryz.prog 135 #[.string s, .int .i64 (i : Int), .int .i64 left] w (ParO s m (P ((L s).drop i)) w))
  (i : Nat) (w : World) (hi : i ≤ s.size) : Calls Tryz.prog 100 #[.string s, .int .i64 (i : Int), .int .i64 left] w (ParO s m (infP 6 (some 38) P ((L s).drop i)) w) := by
 have HS := Lib.hid hs
 have HI := Lib.hid hi
 have HM := Lib.hid hm
 have HSUB := Lib.hid hsub
 have HEAT := Lib.hid heat
 have HO := Lib.hid (inf_cat 6 (some 38) P ((L s).drop i))
 generalize infP 6 (some 38) P ((L s).drop i) = O at *
 have HA := Lib.hid (fun (k : Nat) (hk : k ≤ s.size + m) w' => at_any s k HS.out (by have := HS.out; have := HM.out; omega) w')
 have HC0 := Lib.hid (fun w' => HSUB.out i w' HI.out)
 clear hs hi hm hsub heat
 go_enter Tryz.func100, Tryz.ntmps100
 go_upto_region 1 with fail
 generalize hW : World.alloc w _ = w1
 obtain ⟨ha, -, hz1, hb1⟩ := alloc_of hW
 have HX := Lib.hid (show BoxP w.heap.size ⟨0, 0, 0, 0, 0, .slice none 0 0⟩ w1 from ha)
 have HB := Lib.hid hb1
 clear hW ha hz1 hb1
 go_wp2_with fail
 refine (HC0.out w1).mono ?_
 rintro e w2 ⟨c, q, k, b, rfl, hq, hb, hk, hr⟩
 have HXL := Lib.hid HX.out.lt
 have HN := Lib.hid (next_of (ps := []) HEAT.out HI.out (Nat.zero_le _) HO.out hk hr).1
 have HNq : Hid (LoopI s m O (headG 6 (some 38) P) [q] k b) := HN.out
 replace HX := Lib.hid (HX.out.below hb)
 replace HB := Lib.hid (HB.out.trans (hb.mono HB.out.size))
 have HC := Lib.hid (hq.mono (M := fun g => w.heap.size < g ∧ g < w2.heap.size) (fun g h h2 => ⟨Nat.lt_of_lt_of_le HXL.out h, h2⟩))
 obtain ⟨pa, pcap, hpa⟩ := hq.rd.forms
 generalize q.args.length = pn at *
 obtain ⟨p0, p1, p2, p3, p4, p5⟩ := c
 simp only at hpa
 subst hpa
 clear hb hq hr hk HC0 HN HXL HO HI
 simp only [aggP]
 go_upto_region 2 with fail
 generalize hW : World.alloc w2 _ = w3
 obtain ⟨ha, -, hz1, hb1⟩ := alloc_of hW
 have HY := Lib.hid (show BoxP w2.heap.size ⟨p0, p1, p2, p3, p4, .slice pa pn pcap⟩ w3 from ha)
 have HZ := Lib.hid hz1
 have HM9 := Lib.hid HX.out.lt
 replace HX := Lib.hid (HX.out.below hb1)
 replace HB := Lib.hid (HB.out.trans (hb1.mono HB.out.size))
 replace HC := Lib.hid (HC.out.stay hb1)
 generalize w2.heap.size = m9 at *
 clear hW ha hz1 hb1
 obtain ⟨z0, z1, z2, z3, z4, z5⟩ := HY.out.cells
 obtain ⟨y0, y1, y2, y3, y4, y5⟩ := HY.out.free
 simp only at z0 z1 z2 z3 z4 z5
 go_wp2_with fail
 generalize hW : World.alloc w3 _ = w4
 obtain ⟨ha, -, hz1, hb1⟩ := alloc_of hW
 have HR := Lib.hid (show BoxP w3.heap.size ⟨p0, p1, p2, p3, p4, .slice pa pn pcap⟩ w4 from ha)
 rw [HZ.out] at HR ⊢
 replace HX := Lib.hid (HX.out.below hb1)
 replace HB := Lib.hid (HB.out.trans (hb1.mono HB.out.size))
 replace HC := Lib.hid (HC.out.stay hb1)
 replace HY := Lib.hid (HY.out.below hb1)
 have HOW0 := Lib.hid (OwnP.one_at (N := fun g => w.heap.size < g ∧ g ≠ m9) HR.out (HC.out.mono (fun g h _ => ⟨⟨h.1, by omega⟩, by omega⟩)))
 have HNN : Hid (∀ g, (w.heap.size < g ∧ g ≠ m9) → w.heap.size < g) := fun g h => h.1
 have HNB : Hid (∀ g, m9 + 1 ≤ g → w.heap.size < g) := fun g h => by have := HM9.out; omega
 clear hW ha hz1 hb1 HR HC HZ z0 z1 z2 z3 z4 z5 y0 y1 y2 y3 y4 y5
 go_loopw [10, 11, 12] (fun kv bv lv wr => ∃ (k : Nat) (b : Bool) (A : Option Addr) (cap : Nat) (cs : List PC) (ps : List RX) (z : PC), kv = .int .i64 (k : Int) ∧ bv = .bool b ∧ lv = .slice A cs.length cap ∧ Hid (OwnP (fun g => w.heap.size < g ∧ g ≠ m9) (m9 + 1) wr (.slice A cs.length cap) cs ps) ∧ Hid (LoopI s m O (headG 6 (some 38) P) ps k b) ∧ Hid (BoxP w.heap.size ⟨0, 0, 0, 0, 0, .slice none 0 0⟩ wr) ∧ Hid (Below w.heap.size w wr) ∧ Hid (BoxP m9 z wr) ∧ Hid (∃ za zn zc, z.a = .slice za zn zc)) (fun kv bv _ _ => msr s.size kv bv)
 case atStart => exact ⟨k, b, _, _, [_], [q], _, rfl, rfl, rfl, HOW0.out, HNq.out, HX.out, HB.out, HY.out, ⟨_, _, _, rfl⟩⟩
 case round =>
  clear HX HB HY HOW0 HNq
  obtain ⟨k, b, A, cap, cs, ps, z, rfl, rfl, rfl, HOW, HLI, HX, HB, HY, HZA⟩ := hrel
  cases b with
  | false =>
   have HF := Lib.hid (HLI.out.done (J := joinP 6 ps))
   have HRL : Hid (RdL (fun g => w.heap.size < g) wr (.slice A cs.length cap) (ps)) := (HOW.out.mono (M := fun g => w.heap.size < g) (fun g h => HNN.out g h)).node2 (fun g hg => HNB.out g (HOW.out.1.lt g hg).1) 0 0 0 0 0
   have HJ := Lib.hid (joined_any _ 6 _ _ wr HRL.out)
   clear HOW
   go_wp2_with fail
   refine HJ.out.mono ?_
   rintro e w8 ⟨d, rfl, hq, hb⟩
   have HXL := Lib.hid HX.out.lt
   replace HX := Lib.hid (HX.out.below hb)
   replace HB := Lib.hid (HB.out.trans (hb.mono HB.out.size))
   have HQ := Lib.hid (hq.mono (M := fun g => w.heap.size < g) (fun g h _ => by rcases h with h | h; exact h; exact Nat.lt_of_lt_of_le HXL.out h))
   obtain ⟨fa, fcap, hfa⟩ := hq.rd.forms
   generalize joinP 6 (ps) = J at *
   generalize J.args.length = rn at *
   obtain ⟨q0, q1, q2, q3, q4, q5⟩ := d
   simp only at hfa
   subst hfa
   clear hb hq HRL HJ
   obtain ⟨z0, z1, z2, z3, z4, z5⟩ := HX.out.cells
   obtain ⟨y0, y1, y2, y3, y4, y5⟩ := HX.out.free
   simp only at z0 z1 z2 z3 z4 z5
   simp only [aggP]
   go_wp2_with fail
   generalize hW : World.setCell _ _ _ = w9
   obtain ⟨hbx, hq, hb⟩ := par_fin (d := ⟨q0, q1, q2, q3, q4, .slice fa rn fcap⟩) HX.out HB.out HQ.out hW
   obtain ⟨s0, s1, s2, s3, s4, s5⟩ := hbx.cells
   refine bodyPost_ret (v := .tuple #[aggP ⟨q0, q1, q2, q3, q4, .slice fa rn fcap⟩, .int .i64 ((k : Nat) : Int), .bool false]) (by simp only at s0 s1 s2 s3 s4 s5; simp [results, Tryz.results100, go_sem, s0, s1, s2, s3, s4, s5]) rfl ⟨_, _, k, false, rfl, hq, hb, HF.out.le, HF.out.fin⟩
  | true =>
   have HAK := Lib.hid (HA.out k HLI.out.le)
   have HT := Lib.hid (HLI.out.tru rfl)
   have hki : (k : Int) ≤ 100000200 := by have := HS.out; have := HM.out; have := HLI.out.le; omega
   have HSE := Lib.hid (show hdI ((L s).drop k) = 38 → _ from fun h => HLI.out.sep (h.trans rfl))
   have HLA := Lib.hid (show ¬ hdI ((L s).drop k) = 38 → _ from fun h => HLI.out.last (fun h2 => h (h2.trans rfl)))
   clear HLI
   go_wp2_with fail
   refine (HAK.out wr).mono ?_
   rintro e wx ⟨rfl, rfl⟩
   clear HAK
   generalize hdI ((L s).drop k) = c at *
   by_cases ec : c = 38
   case neg =>
    have HF := Lib.hid (HLA.out ec)
    have tc : (c == 38) = false := beq_false_of_ne ec
    clear HSE HLA ec
    have HRL : Hid (RdL (fun g => w.heap.size < g) wr (.slice A cs.length cap) (ps)) := (HOW.out.mono (M := fun g => w.heap.size < g) (fun g h => HNN.out g h)).node2 (fun g hg => HNB.out g (HOW.out.1.lt g hg).1) 0 0 0 0 0
    have HJ := Lib.hid (joined_any _ 6 _ _ wr HRL.out)
    clear HOW
    go_wp2_with fail
    refine HJ.out.mono ?_
    rintro e w8 ⟨d, rfl, hq, hb⟩
    have HXL := Lib.hid HX.out.lt
    replace HX := Lib.hid (HX.out.below hb)
    replace HB := Lib.hid (HB.out.trans (hb.mono HB.out.size))
    have HQ := Lib.hid (hq.mono (M := fun g => w.heap.size < g) (fun g h _ => by rcases h with h | h; exact h; exact Nat.lt_of_lt_of_le HXL.out h))
    obtain ⟨fa, fcap, hfa⟩ := hq.rd.forms
    generalize joinP 6 (ps) = J at *
    generalize J.args.length = rn at *
    obtain ⟨q0, q1, q2, q3, q4, q5⟩ := d
    simp only at hfa
    subst hfa
    clear hb hq HRL HJ
    obtain ⟨z0, z1, z2, z3, z4, z5⟩ := HX.out.cells
    obtain ⟨y0, y1, y2, y3, y4, y5⟩ := HX.out.free
    simp only at z0 z1 z2 z3 z4 z5
    simp only [aggP]
    go_wp2_with fail
    generalize hW : World.setCell _ _ _ = w9
    obtain ⟨hbx, hq, hb⟩ := par_fin (d := ⟨q0, q1, q2, q3, q4, .slice fa rn fcap⟩) HX.out HB.out HQ.out hW
    obtain ⟨s0, s1, s2, s3, s4, s5⟩ := hbx.cells
    refine bodyPost_ret (v := .tuple #[aggP ⟨q0, q1, q2, q3, q4, .slice fa rn fcap⟩, .int .i64 ((k : Nat) : Int), .bool true]) (by simp only at s0 s1 s2 s3 s4 s5; simp [results, Tryz.results100, go_sem, s0, s1, s2, s3, s4, s5]) rfl ⟨_, _, k, true, rfl, hq, hb, HF.out.le, HF.out.fin⟩
   case pos =>
    subst ec
    have HT2 := Lib.hid (HSE.out rfl)
    have HC0 := Lib.hid (fun w' => HSUB.out (k + 1) w' HT2.out.2.1)
    rw [show ((k + 1 : Nat) : Int) = (k : Int) + 1 by omega] at HC0
    have HOWL := Lib.hid (fun g (h : (Value.slice A cs.length cap).ownBlock = some g) => (HOW.out.1.lt g h).2)
    clear HSE HLA
    obtain ⟨za, zn, zc, hza⟩ := HZA.out
    obtain ⟨z0', z1', z2', z3', z4', z5'⟩ := z
    simp only at hza
    subst hza
    clear HZA
    go_wp2_with fail
    refine (HC0.out wr).mono ?_
    rintro e w4 ⟨c, q, k2, b2, rfl, hq, hb, hk2, hr⟩
    have HN := Lib.hid (next_of HEAT.out HT2.out.2.1 (Nat.le_succ_of_le HT2.out.1) HT2.out.2.2 hk2 hr)
    have HC := Lib.hid (hq.mono (M := fun g => wr.heap.size ≤ g) (fun g h _ => h))
    have HYL := Lib.hid HY.out.lt
    have HBS := Lib.hid HB.out.size
    replace HOW := Lib.hid (HOW.out.keep2 (w' := w4) (fun g _ hg => hb.block g hg))
    replace HX := Lib.hid (HX.out.below hb)
    replace HY := Lib.hid (HY.out.below hb)
    replace HB := Lib.hid (HB.out.trans (hb.mono HB.out.size))
    obtain ⟨pa, pcap, hpa⟩ := hq.rd.forms
    generalize q.args.length = pn at *
    obtain ⟨p0, p1, p2, p3, p4, p5⟩ := c
    simp only at hpa
    subst hpa
    clear hb hq hr hk2 HC0
    obtain ⟨z0, z1, z2, z3, z4, z5⟩ := HY.out.cells
    obtain ⟨y0, y1, y2, y3, y4, y5⟩ := HY.out.free
    simp only at z0 z1 z2 z3 z4 z5
    simp only [aggP]
    go_upto_region 5 with fail
    generalize hW : World.setCell _ _ _ = w5
    obtain ⟨hb1, hb2⟩ := HY.out.set (d := ⟨p0, p1, p2, p3, p4, .slice pa pn pcap⟩) hW
    have hot := set6_other hW
    replace HC := Lib.hid (HC.out.keep (w' := w5) (fun x hx _ => hot x (by have := HYL.out; omega)))
    replace HY := Lib.hid hb1
    replace HOW := Lib.hid (HOW.out.keep2 (w' := w5) (fun g hg _ => hot g (by rcases hg with hg | hg; exact hg.2; exact (by have := (HOW.out.1.lt g hg).1; omega))))
    replace HX := Lib.hid (show BoxP w.heap.size ⟨0, 0, 0, 0, 0, .slice none 0 0⟩ w5 from (hot _ (by have := HM9.out; omega)).trans HX.out)
    replace HB := Lib.hid (HB.out.trans (hb2.mono (Nat.le_of_lt HM9.out)))
    have HK := Lib.hid HT.out.2.1
    clear hW hb1 hb2 hot z0 z1 z2 z3 z4 z5 y0 y1 y2 y3 y4 y5
    obtain ⟨z0, z1, z2, z3, z4, z5⟩ := HY.out.cells
    obtain ⟨y0, y1, y2, y3, y4, y5⟩ := HY.out.free
    simp only at z0 z1 z2 z3 z4 z5
    go_wp2_with (at_builtin; refine wpl_pushP (N := fun g => w.heap.size < g ∧ g ≠ m9) (B := m9 + 1) (c := ⟨p0, p1, p2, p3, p4, .slice pa pn pcap⟩) (p := q) (v := .slice A cs.length cap) (cs := cs) (ps := ps) _ _ rfl rfl HOW.out (HC.out.mono (fun g hg _ => ⟨⟨Nat.lt_of_lt_of_le HM9.out (Nat.le_of_lt (Nat.lt_of_lt_of_le HYL.out hg)), by have := HYL.out; omega⟩, fun he => by have := HOWL.out g he.symm; omega⟩)) rfl rfl rfl (by have := HT2.out; have := HS.out; have := HOW.out.2.1; omega) HY.out.lt ?_; intro v3 w6 hown3 hg3 hfm3 hat3; obtain ⟨A3, cap3, rfl⟩ := hfm3)
    have hgb := grown_below hg3 (fun x hx => (HOW.out.1.lt x hx).1) (B := m9 + 1) HY.out.lt
    exact ⟨⟨k2, b2, A3, cap3, cs ++ [_], ps ++ [q], _, rfl, rfl, by simp, by unfold Hid; simpa using hown3, HN.out.1, (hgb.block _ (by have := HM9.out; omega)).trans HX.out, HB.out.trans (hgb.mono (by have := HM9.out; omega)), (hgb.block _ (Nat.lt_succ_self _)).trans HY.out, ⟨_, _, _, rfl⟩⟩, msr_lt HK.out (fun h => Nat.lt_of_succ_lt (HN.out.2 h))⟩
theorem Ralt_any (s : ByteArray) (left : Int) (P : List UInt8 → Option (RX × List UInt8)) (heat : Eats P) (m : Nat) (hs : s.size ≤ 100000000) (hm : m ≤ 200)
  (hsub : ∀ (i : Nat) (w : World), i ≤ s.size → Calls Tryz.prog 100 #[.string s, .int .i64 (i : Int), .int .i64 left] w (ParO s m (P ((L s).drop i)) w))
  (i : Nat) (w : World) (hi : i ≤ s.size) : Calls Tryz.prog 68 #[.string s, .int .i64 (i : Int), .int .i64 left] w (ParO s m (infP 4 (some 124) P ((L s).drop i)) w) := by
 have HS := Lib.hid hs
 have HI := Lib.hid hi
 have HM := Lib.hid hm
 have HSUB := Lib.hid hsub
 have HEAT := Lib.hid heat
 have HO := Lib.hid (inf_cat 4 (some 124) P ((L s).drop i))
 generalize infP 4 (some 124) P ((L s).drop i) = O at *
 have HA := Lib.hid (fun (k : Nat) (hk : k ≤ s.size + m) w' => at_any s k HS.out (by have := HS.out; have := HM.out; omega) w')
 have HC0 := Lib.hid (fun w' => HSUB.out i w' HI.out)
 clear hs hi hm hsub heat
 go_enter Tryz.func68, Tryz.ntmps68
 go_upto_region 1 with fail
 generalize hW : World.alloc w _ = w1
 obtain ⟨ha, -, hz1, hb1⟩ := alloc_of hW
 have HX := Lib.hid (show BoxP w.heap.size ⟨0, 0, 0, 0, 0, .slice none 0 0⟩ w1 from ha)
 have HB := Lib.hid hb1
 clear hW ha hz1 hb1
 go_wp2_with fail
 refine (HC0.out w1).mono ?_
 rintro e w2 ⟨c, q, k, b, rfl, hq, hb, hk, hr⟩
 have HXL := Lib.hid HX.out.lt
 have HN := Lib.hid (next_of (ps := []) HEAT.out HI.out (Nat.zero_le _) HO.out hk hr).1
 have HNq : Hid (LoopI s m O (headG 4 (some 124) P) [q] k b) := HN.out
 replace HX := Lib.hid (HX.out.below hb)
 replace HB := Lib.hid (HB.out.trans (hb.mono HB.out.size))
 have HC := Lib.hid (hq.mono (M := fun g => w.heap.size < g ∧ g < w2.heap.size) (fun g h h2 => ⟨Nat.lt_of_lt_of_le HXL.out h, h2⟩))
 obtain ⟨pa, pcap, hpa⟩ := hq.rd.forms
 generalize q.args.length = pn at *
 obtain ⟨p0, p1, p2, p3, p4, p5⟩ := c
 simp only at hpa
 subst hpa
 clear hb hq hr hk HC0 HN HXL HO HI
 simp only [aggP]
 go_upto_region 2 with fail
 generalize hW : World.alloc w2 _ = w3
 obtain ⟨ha, -, hz1, hb1⟩ := alloc_of hW
 have HY := Lib.hid (show BoxP w2.heap.size ⟨p0, p1, p2, p3, p4, .slice pa pn pcap⟩ w3 from ha)
 have HZ := Lib.hid hz1
 have HM9 := Lib.hid HX.out.lt
 replace HX := Lib.hid (HX.out.below hb1)
 replace HB := Lib.hid (HB.out.trans (hb1.mono HB.out.size))
 replace HC := Lib.hid (HC.out.stay hb1)
 generalize w2.heap.size = m9 at *
 clear hW ha hz1 hb1
 obtain ⟨z0, z1, z2, z3, z4, z5⟩ := HY.out.cells
 obtain ⟨y0, y1, y2, y3, y4, y5⟩ := HY.out.free
 simp only at z0 z1 z2 z3 z4 z5
 go_wp2_with fail
 generalize hW : World.alloc w3 _ = w4
 obtain ⟨ha, -, hz1, hb1⟩ := alloc_of hW
 have HR := Lib.hid (show BoxP w3.heap.size ⟨p0, p1, p2, p3, p4, .slice pa pn pcap⟩ w4 from ha)
 rw [HZ.out] at HR ⊢
 replace HX := Lib.hid (HX.out.below hb1)
 replace HB := Lib.hid (HB.out.trans (hb1.mono HB.out.size))
 replace HC := Lib.hid (HC.out.stay hb1)
 replace HY := Lib.hid (HY.out.below hb1)
 have HOW0 := Lib.hid (OwnP.one_at (N := fun g => w.heap.size < g ∧ g ≠ m9) HR.out (HC.out.mono (fun g h _ => ⟨⟨h.1, by omega⟩, by omega⟩)))
 have HNN : Hid (∀ g, (w.heap.size < g ∧ g ≠ m9) → w.heap.size < g) := fun g h => h.1
 have HNB : Hid (∀ g, m9 + 1 ≤ g → w.heap.size < g) := fun g h => by have := HM9.out; omega
 clear hW ha hz1 hb1 HR HC HZ z0 z1 z2 z3 z4 z5 y0 y1 y2 y3 y4 y5
 go_loopw [10, 11, 12] (fun kv bv lv wr => ∃ (k : Nat) (b : Bool) (A : Option Addr) (cap : Nat) (cs : List PC) (ps : List RX) (z : PC), kv = .int .i64 (k : Int) ∧ bv = .bool b ∧ lv = .slice A cs.length cap ∧ Hid (OwnP (fun g => w.heap.size < g ∧ g ≠ m9) (m9 + 1) wr (.slice A cs.length cap) cs ps) ∧ Hid (LoopI s m O (headG 4 (some 124) P) ps k b) ∧ Hid (BoxP w.heap.size ⟨0, 0, 0, 0, 0, .slice none 0 0⟩ wr) ∧ Hid (Below w.heap.size w wr) ∧ Hid (BoxP m9 z wr) ∧ Hid (∃ za zn zc, z.a = .slice za zn zc)) (fun kv bv _ _ => msr s.size kv bv)
 case atStart => exact ⟨k, b, _, _, [_], [q], _, rfl, rfl, rfl, HOW0.out, HNq.out, HX.out, HB.out, HY.out, ⟨_, _, _, rfl⟩⟩
 case round =>
  clear HX HB HY HOW0 HNq
  obtain ⟨k, b, A, cap, cs, ps, z, rfl, rfl, rfl, HOW, HLI, HX, HB, HY, HZA⟩ := hrel
  cases b with
  | false =>
   have HF := Lib.hid (HLI.out.done (J := joinP 4 ps))
   have HRL : Hid (RdL (fun g => w.heap.size < g) wr (.slice A cs.length cap) (ps)) := (HOW.out.mono (M := fun g => w.heap.size < g) (fun g h => HNN.out g h)).node2 (fun g hg => HNB.out g (HOW.out.1.lt g hg).1) 0 0 0 0 0
   have HJ := Lib.hid (joined_any _ 4 _ _ wr HRL.out)
   clear HOW
   go_wp2_with fail
   refine HJ.out.mono ?_
   rintro e w8 ⟨d, rfl, hq, hb⟩
   have HXL := Lib.hid HX.out.lt
   replace HX := Lib.hid (HX.out.below hb)
   replace HB := Lib.hid (HB.out.trans (hb.mono HB.out.size))
   have HQ := Lib.hid (hq.mono (M := fun g => w.heap.size < g) (fun g h _ => by rcases h with h | h; exact h; exact Nat.lt_of_lt_of_le HXL.out h))
   obtain ⟨fa, fcap, hfa⟩ := hq.rd.forms
   generalize joinP 4 (ps) = J at *
   generalize J.args.length = rn at *
   obtain ⟨q0, q1, q2, q3, q4, q5⟩ := d
   simp only at hfa
   subst hfa
   clear hb hq HRL HJ
   obtain ⟨z0, z1, z2, z3, z4, z5⟩ := HX.out.cells
   obtain ⟨y0, y1, y2, y3, y4, y5⟩ := HX.out.free
   simp only at z0 z1 z2 z3 z4 z5
   simp only [aggP]
   go_wp2_with fail
   generalize hW : World.setCell _ _ _ = w9
   obtain ⟨hbx, hq, hb⟩ := par_fin (d := ⟨q0, q1, q2, q3, q4, .slice fa rn fcap⟩) HX.out HB.out HQ.out hW
   obtain ⟨s0, s1, s2, s3, s4, s5⟩ := hbx.cells
   refine bodyPost_ret (v := .tuple #[aggP ⟨q0, q1, q2, q3, q4, .slice fa rn fcap⟩, .int .i64 ((k : Nat) : Int), .bool false]) (by simp only at s0 s1 s2 s3 s4 s5; simp [results, Tryz.results68, go_sem, s0, s1, s2, s3, s4, s5]) rfl ⟨_, _, k, false, rfl, hq, hb, HF.out.le, HF.out.fin⟩
  | true =>
   have HAK := Lib.hid (HA.out k HLI.out.le)
   have HT := Lib.hid (HLI.out.tru rfl)
   have hki : (k : Int) ≤ 100000200 := by have := HS.out; have := HM.out; have := HLI.out.le; omega
   have HSE := Lib.hid (show hdI ((L s).drop k) = 124 → _ from fun h => HLI.out.sep (h.trans rfl))
   have HLA := Lib.hid (show ¬ hdI ((L s).drop k) = 124 → _ from fun h => HLI.out.last (fun h2 => h (h2.trans rfl)))
   clear HLI
   go_wp2_with fail
   refine (HAK.out wr).mono ?_
   rintro e wx ⟨rfl, rfl⟩
   clear HAK
   generalize hdI ((L s).drop k) = c at *
   by_cases ec : c = 124
   case neg =>
    have HF := Lib.hid (HLA.out ec)
    have tc : (c == 124) = false := beq_false_of_ne ec
    clear HSE HLA ec
    have HRL : Hid (RdL (fun g => w.heap.size < g) wr (.slice A cs.length cap) (ps)) := (HOW.out.mono (M := fun g => w.heap.size < g) (fun g h => HNN.out g h)).node2 (fun g hg => HNB.out g (HOW.out.1.lt g hg).1) 0 0 0 0 0
    have HJ := Lib.hid (joined_any _ 4 _ _ wr HRL.out)
    clear HOW
    go_wp2_with fail
    refine HJ.out.mono ?_
    rintro e w8 ⟨d, rfl, hq, hb⟩
    have HXL := Lib.hid HX.out.lt
    replace HX := Lib.hid (HX.out.below hb)
    replace HB := Lib.hid (HB.out.trans (hb.mono HB.out.size))
    have HQ := Lib.hid (hq.mono (M := fun g => w.heap.size < g) (fun g h _ => by rcases h with h | h; exact h; exact Nat.lt_of_lt_of_le HXL.out h))
    obtain ⟨fa, fcap, hfa⟩ := hq.rd.forms
    generalize joinP 4 (ps) = J at *
    generalize J.args.length = rn at *
    obtain ⟨q0, q1, q2, q3, q4, q5⟩ := d
    simp only at hfa
    subst hfa
    clear hb hq HRL HJ
    obtain ⟨z0, z1, z2, z3, z4, z5⟩ := HX.out.cells
    obtain ⟨y0, y1, y2, y3, y4, y5⟩ := HX.out.free
    simp only at z0 z1 z2 z3 z4 z5
    simp only [aggP]
    go_wp2_with fail
    generalize hW : World.setCell _ _ _ = w9
    obtain ⟨hbx, hq, hb⟩ := par_fin (d := ⟨q0, q1, q2, q3, q4, .slice fa rn fcap⟩) HX.out HB.out HQ.out hW
    obtain ⟨s0, s1, s2, s3, s4, s5⟩ := hbx.cells
    refine bodyPost_ret (v := .tuple #[aggP ⟨q0, q1, q2, q3, q4, .slice fa rn fcap⟩, .int .i64 ((k : Nat) : Int), .bool true]) (by simp only at s0 s1 s2 s3 s4 s5; simp [results, Tryz.results68, go_sem, s0, s1, s2, s3, s4, s5]) rfl ⟨_, _, k, true, rfl, hq, hb, HF.out.le, HF.out.fin⟩
   case pos =>
    subst ec
    have HT2 := Lib.hid (HSE.out rfl)
    have HC0 := Lib.hid (fun w' => HSUB.out (k + 1) w' HT2.out.2.1)
    rw [show ((k + 1 : Nat) : Int) = (k : Int) + 1 by omega] at HC0
    have HOWL := Lib.hid (fun g (h : (Value.slice A cs.length cap).ownBlock = some g) => (HOW.out.1.lt g h).2)
    clear HSE HLA
    obtain ⟨za, zn, zc, hza⟩ := HZA.out
    obtain ⟨z0', z1', z2', z3', z4', z5'⟩ := z
    simp only at hza
    subst hza
    clear HZA
    go_wp2_with fail
    refine (HC0.out wr).mono ?_
    rintro e w4 ⟨c, q, k2, b2, rfl, hq, hb, hk2, hr⟩
    have HN := Lib.hid (next_of HEAT.out HT2.out.2.1 (Nat.le_succ_of_le HT2.out.1) HT2.out.2.2 hk2 hr)
    have HC := Lib.hid (hq.mono (M := fun g => wr.heap.size ≤ g) (fun g h _ => h))
    have HYL := Lib.hid HY.out.lt
    have HBS := Lib.hid HB.out.size
    replace HOW := Lib.hid (HOW.out.keep2 (w' := w4) (fun g _ hg => hb.block g hg))
    replace HX := Lib.hid (HX.out.below hb)
    replace HY := Lib.hid (HY.out.below hb)
    replace HB := Lib.hid (HB.out.trans (hb.mono HB.out.size))
    obtain ⟨pa, pcap, hpa⟩ := hq.rd.forms
    generalize q.args.length = pn at *
    obtain ⟨p0, p1, p2, p3, p4, p5⟩ := c
    simp only at hpa
    subst hpa
    clear hb hq hr hk2 HC0
    obtain ⟨z0, z1, z2, z3, z4, z5⟩ := HY.out.cells
    obtain ⟨y0, y1, y2, y3, y4, y5⟩ := HY.out.free
    simp only at z0 z1 z2 z3 z4 z5
    simp only [aggP]
    go_upto_region 5 with fail
    generalize hW : World.setCell _ _ _ = w5
    obtain ⟨hb1, hb2⟩ := HY.out.set (d := ⟨p0, p1, p2, p3, p4, .slice pa pn pcap⟩) hW
    have hot := set6_other hW
    replace HC := Lib.hid (HC.out.keep (w' := w5) (fun x hx _ => hot x (by have := HYL.out; omega)))
    replace HY := Lib.hid hb1
    replace HOW := Lib.hid (HOW.out.keep2 (w' := w5) (fun g hg _ => hot g (by rcases hg with hg | hg; exact hg.2; exact (by have := (HOW.out.1.lt g hg).1; omega))))
    replace HX := Lib.hid (show BoxP w.heap.size ⟨0, 0, 0, 0, 0, .slice none 0 0⟩ w5 from (hot _ (by have := HM9.out; omega)).trans HX.out)
    replace HB := Lib.hid (HB.out.trans (hb2.mono (Nat.le_of_lt HM9.out)))
    have HK := Lib.hid HT.out.2.1
    clear hW hb1 hb2 hot z0 z1 z2 z3 z4 z5 y0 y1 y2 y3 y4 y5
    obtain ⟨z0, z1, z2, z3, z4, z5⟩ := HY.out.cells
    obtain ⟨y0, y1, y2, y3, y4, y5⟩ := HY.out.free
    simp only at z0 z1 z2 z3 z4 z5
    go_wp2_with (at_builtin; refine wpl_pushP (N := fun g => w.heap.size < g ∧ g ≠ m9) (B := m9 + 1) (c := ⟨p0, p1, p2, p3, p4, .slice pa pn pcap⟩) (p := q) (v := .slice A cs.length cap) (cs := cs) (ps := ps) _ _ rfl rfl HOW.out (HC.out.mono (fun g hg _ => ⟨⟨Nat.lt_of_lt_of_le HM9.out (Nat.le_of_lt (Nat.lt_of_lt_of_le HYL.out hg)), by have := HYL.out; omega⟩, fun he => by have := HOWL.out g he.symm; omega⟩)) rfl rfl rfl (by have := HT2.out; have := HS.out; have := HOW.out.2.1; omega) HY.out.lt ?_; intro v3 w6 hown3 hg3 hfm3 hat3; obtain ⟨A3, cap3, rfl⟩ := hfm3)
    have hgb := grown_below hg3 (fun x hx => (HOW.out.1.lt x hx).1) (B := m9 + 1) HY.out.lt
    exact ⟨⟨k2, b2, A3, cap3, cs ++ [_], ps ++ [q], _, rfl, rfl, by simp, by unfold Hid; simpa using hown3, HN.out.1, (hgb.block _ (by have := HM9.out; omega)).trans HX.out, HB.out.trans (hgb.mono (by have := HM9.out; omega)), (hgb.block _ (Nat.lt_succ_self _)).trans HY.out, ⟨_, _, _, rfl⟩⟩, msr_lt HK.out (fun h => Nat.lt_of_succ_lt (HN.out.2 h))⟩
end Go.Proofs.YtpkecepelcppiaaGreatDoor

namespace Go.Proofs.YtpkecepelcppiaaGreatDoor
open Go.RowKit Go.Shelf
set_option maxHeartbeats 4000000
set_option maxRecDepth 100000

theorem fin_not {s : ByteArray} {m k : Nat} {b : Bool} {q : RX} {O R : Option (RX × List UInt8)} (hk : k ≤ s.size + m) (hr : match R with | some x => b = true ∧ q = x.1 ∧ k ≤ s.size ∧ (L s).drop k = x.2 | none => b = false) (hO : O = R.map fun x => (sngR 7 x.1, x.2)) :
  FinI s m O (.mk 7 0 0 0 0 [q]) k b := by
 cases R with
 | none =>
  subst hr
  exact ⟨hk, fun h => (by cases h), fun _ => hO⟩
 | some x =>
  obtain ⟨p, r⟩ := x
  obtain ⟨rfl, rfl, h1, h2⟩ := hr
  refine ⟨hk, fun _ => ⟨h1, ?_⟩, fun h => (by cases h)⟩
  rw [hO, h2]
  rfl
structure PostI (s : ByteArray) (m : Nat) (O : Option (RX × List UInt8)) (q : RX) (k n : Nat) : Prop where
 le : k ≤ s.size
 nn : n ≤ 49
 tru : O = postP pgQ (49 - n) q ((L s).drop k)
theorem PostI.last {s : ByteArray} {m : Nat} {O : Option (RX × List UInt8)} {q : RX} {k n : Nat} (h : PostI s m O q k n) (hn : ¬ n ≤ 48) : FinI s m O q k true := by
 have h1 := h.tru
 have h2 := h.nn
 rw [show 49 - n = 0 by omega] at h1
 exact ⟨by have := h.le; omega, fun _ => ⟨h.le, h1⟩, fun h => (by cases h)⟩
theorem PostI.stop {s : ByteArray} {m : Nat} {O : Option (RX × List UInt8)} {q : RX} {k n : Nat} (h : PostI s m O q k n) (hn : n ≤ 48) (hb : bndQ ((L s).drop k) = .no) : FinI s m O q k true := by
 have h1 := h.tru
 rw [show 49 - n = (48 - n) + 1 by omega, postP, show pgQ.bnd ((L s).drop k) = .no from hb] at h1
 exact ⟨by have := h.le; omega, fun _ => ⟨h.le, h1⟩, fun h => (by cases h)⟩
theorem PostI.next {s : ByteArray} {m : Nat} {O : Option (RX × List UInt8)} {q : RX} {k k2 n : Nat} {mn mx : Int} {r : List UInt8} (h : PostI s m O q k n) (hn : n ≤ 48) (hb : bndQ ((L s).drop k) = .yes mn mx r) (hk : k2 ≤ s.size) (hr : (L s).drop k2 = r) : PostI s m O (.mk 5 0 0 mn mx [q]) k2 (n + 1) := by
 have h1 := h.tru
 rw [show 49 - n = (48 - n) + 1 by omega, postP, show pgQ.bnd ((L s).drop k) = .yes mn mx r from hb] at h1
 refine ⟨hk, by omega, ?_⟩
 rw [h1, hr, show 49 - (n + 1) = 48 - n by omega]
structure PostB (s : ByteArray) (m : Nat) (O : Option (RX × List UInt8)) (q : RX) (k n : Nat) (b : Bool) : Prop where
 fls : b = false → FinI s m O q k false
 tru : b = true → PostI s m O q k n
theorem post_start {s : ByteArray} {m k : Nat} {b : Bool} {q : RX} {O R : Option (RX × List UInt8)} (hk : k ≤ s.size + m) (hr : match R with | some x => b = true ∧ q = x.1 ∧ k ≤ s.size ∧ (L s).drop k = x.2 | none => b = false) (hO : O = R.bind fun x => postP pgQ 49 x.1 x.2) :
  PostB s m O q k 0 b := by
 cases R with
 | none =>
  subst hr
  exact ⟨fun _ => ⟨hk, fun h => (by cases h), fun _ => hO⟩, fun h => (by cases h)⟩
 | some x =>
  obtain ⟨p, r⟩ := x
  obtain ⟨rfl, rfl, h1, h2⟩ := hr
  refine ⟨fun h => (by cases h), fun _ => ⟨h1, by omega, ?_⟩⟩
  rw [hO, h2]
  rfl
theorem not_node {w wr : World} {c : PC} {q : RX} {g : Nat} (hb : BoxP g c wr) (hc : RdQ (fun x => w.heap.size < x ∧ x ≠ g) wr c q) (hg : w.heap.size < g) (op : Int) :
  RdQ (fun x => w.heap.size < x) wr ⟨op, 0, 0, 0, 0, .slice (some ⟨g, 0, none⟩) 1 1⟩ (.mk op 0 0 0 0 [q]) :=
 (OwnP.one (N := fun x => w.heap.size < x) hb hc).node2 (fun x hx => by rw [own_one hx]; exact hg) op 0 0 0 0
theorem Rnot_neg (s : ByteArray) (m : Nat) (i : Nat) (w : World) (hi : i ≤ s.size) : Calls Tryz.prog 156 #[.string s, .int .i64 (i : Int), .int .i64 (-1)] w (ParO s m none w) := by
 have HI := Lib.hid hi
 clear hi
 go_enter Tryz.func156, Tryz.ntmps156
 go_upto_region 1 with fail
 generalize hW : World.alloc w _ = w1
 obtain ⟨ha, -, hz1, hb1⟩ := alloc_of hW
 have HX := Lib.hid (show BoxP w.heap.size ⟨0, 0, 0, 0, 0, .slice none 0 0⟩ w1 from ha)
 have HB := Lib.hid hb1
 clear hW ha hz1 hb1
 obtain ⟨z0, z1, z2, z3, z4, z5⟩ := HX.out.cells
 obtain ⟨y0, y1, y2, y3, y4, y5⟩ := HX.out.free
 simp only at z0 z1 z2 z3 z4 z5
 have HF : Hid (FinI s m none (.mk 0 0 0 0 0 []) i false) := ⟨by have := HI.out; omega, fun h => (by cases h), fun _ => rfl⟩
 go_wp2_with fail
 generalize hW : World.setCell _ _ _ = w9
 obtain ⟨hbx, hq, hb⟩ := par_fin (d := ⟨0, 0, 0, 0, 0, .slice none 0 0⟩) HX.out HB.out (leaf_rdq _ _ 0 0 0) hW
 obtain ⟨s0, s1, s2, s3, s4, s5⟩ := hbx.cells
 refine bodyPost_ret (v := .tuple #[aggP ⟨0, 0, 0, 0, 0, .slice none 0 0⟩, .int .i64 ((i : Nat) : Int), .bool false]) (by simp only at s0 s1 s2 s3 s4 s5; simp [results, Tryz.results156, go_sem, s0, s1, s2, s3, s4, s5]) rfl ⟨_, _, i, false, rfl, hq, hb, HF.out.le, HF.out.fin⟩
theorem Rnot_any (s : ByteArray) (n : Nat) (hn : n ≤ 48) (m : Nat) (hs : s.size ≤ 100000000) (hm : m ≤ 100)
  (hsub : ∀ (i : Nat) (w : World), i ≤ s.size → Calls Tryz.prog 156 #[.string s, .int .i64 (i : Int), .int .i64 ((n : Int) - 1)] w (ParO s m (subQ n ((L s).drop i)) w))
  (hatom : ∀ (i : Nat) (w : World), i ≤ s.size → Calls Tryz.prog 168 #[.string s, .int .i64 (i : Int), .int .i64 (n : Int)] w (ParO s (m + 2) (atmI (inf1 (subQ n)) ((L s).drop i)) w))
  (i : Nat) (w : World) (hi : i ≤ s.size) : Calls Tryz.prog 156 #[.string s, .int .i64 (i : Int), .int .i64 (n : Int)] w (ParO s (m + 2) (preP pgQ n ((L s).drop i)) w) := by
 have hii : (i : Int) ≤ 100000000 := by omega
 have hn48 : (n : Int) ≤ 48 := by omega
 have hn0 : ¬ (n : Int) < 0 := by omega
 have HS := Lib.hid hs
 have HI := Lib.hid hi
 have HM := Lib.hid hm
 have HSUB := Lib.hid hsub
 have HATOM := Lib.hid hatom
 have HO := Lib.hid (pre_I n ((L s).drop i))
 generalize preP pgQ n ((L s).drop i) = O at *
 rw [List.drop_drop] at HO
 have HA0 := Lib.hid (fun w' => at_any s i HS.out (by have := HS.out; have := HI.out; omega) w')
 have HL0 := Lib.hid (hdI_lt (s := s) (i := i))
 generalize hdI ((L s).drop i) = v at *
 clear hs hi hm hsub hatom hn
 go_enter Tryz.func156, Tryz.ntmps156
 go_upto_region 1 with fail
 generalize hW : World.alloc w _ = w1
 obtain ⟨ha, -, hz1, hb1⟩ := alloc_of hW
 have HX := Lib.hid (show BoxP w.heap.size ⟨0, 0, 0, 0, 0, .slice none 0 0⟩ w1 from ha)
 have HB := Lib.hid hb1
 clear hW ha hz1 hb1
 go_wp2_with fail
 refine (HA0.out w1).mono ?_
 rintro e wr ⟨rfl, rfl⟩
 by_cases e33 : v = 33
 ·subst e33
  replace HO := Lib.hid (HO.out.trans (if_pos rfl))
  have HI1 : Hid (i + 1 ≤ s.size) := HL0.out (by decide)
  have HC0 := Lib.hid (HSUB.out (i + 1) w1 HI1.out)
  rw [show ((i + 1 : Nat) : Int) = (i : Int) + 1 by omega] at HC0
  clear HL0 HA0 HSUB HATOM
  go_wp2_with fail
  refine HC0.out.mono ?_
  rintro e w3 ⟨c, q, k, b, rfl, hq, hb, hk, hr⟩
  have HXL := Lib.hid HX.out.lt
  replace HX := Lib.hid (HX.out.below hb)
  replace HB := Lib.hid (HB.out.trans (hb.mono HB.out.size))
  have HC := Lib.hid (hq.mono (M := fun g => w.heap.size < g ∧ g < w3.heap.size) (fun g h h2 => ⟨Nat.lt_of_lt_of_le HXL.out h, h2⟩))
  have HF : Hid (FinI s (m + 2) O (.mk 7 0 0 0 0 [q]) k b) := fin_not (Nat.le_trans hk (by omega)) hr HO.out
  obtain ⟨pa, pcap, hpa⟩ := hq.rd.forms
  generalize q.args.length = pn at *
  obtain ⟨p0, p1, p2, p3, p4, p5⟩ := c
  simp only at hpa
  subst hpa
  clear hb hq hr hk HC0 HO
  simp only [aggP]
  go_upto_region 5 with fail
  generalize hW : World.alloc w3 _ = w4
  obtain ⟨ha, -, hz1, hb1⟩ := alloc_of hW
  have HY := Lib.hid (show BoxP w3.heap.size ⟨p0, p1, p2, p3, p4, .slice pa pn pcap⟩ w4 from ha)
  have HLT := Lib.hid HX.out.lt
  replace HX := Lib.hid (HX.out.below hb1)
  replace HB := Lib.hid (HB.out.trans (hb1.mono HB.out.size))
  replace HC := Lib.hid (HC.out.stay hb1)
  have HZ := Lib.hid hz1
  clear hW ha hz1 hb1
  obtain ⟨x0, x1, x2, x3, x4, x5⟩ := HY.out.cells
  obtain ⟨f0, f1, f2, f3, f4, f5⟩ := HY.out.free
  simp only at x0 x1 x2 x3 x4 x5
  go_wp2_with (refine wpl_slice rfl rfl elemP rfl (cs := PC.cells ⟨p0, p1, p2, p3, p4, .slice pa pn pcap⟩) rfl rfl (by decide) ?_; generalize hW : World.alloc w4 _ = w5; obtain ⟨ha, -, hz1, hb1⟩ := alloc_of hW; have HR := Lib.hid (show BoxP w4.heap.size ⟨p0, p1, p2, p3, p4, .slice pa pn pcap⟩ w5 from ha); replace HX := Lib.hid (HX.out.below hb1); replace HB := Lib.hid (HB.out.trans (hb1.mono HB.out.size)); replace HC := Lib.hid (HC.out.stay hb1); clear hW ha hz1 hb1; obtain ⟨z0, z1, z2, z3, z4, z5⟩ := HX.out.cells; obtain ⟨y0, y1, y2, y3, y4, y5⟩ := HX.out.free; simp only at z0 z1 z2 z3 z4 z5)
  have HND := Lib.hid (not_node (w := w) HR.out (HC.out.mono (fun g h _ => ⟨h.1, by have := HZ.out; omega⟩)) (by have := HLT.out; have := HZ.out; omega) 7)
  generalize hW : World.setCell _ _ _ = w9
  obtain ⟨hbx, hq, hb⟩ := par_fin (d := ⟨7, 0, 0, 0, 0, .slice (some ⟨w4.heap.size, 0, none⟩) 1 1⟩) HX.out HB.out HND.out hW
  obtain ⟨s0, s1, s2, s3, s4, s5⟩ := hbx.cells
  refine bodyPost_ret (v := .tuple #[aggP ⟨7, 0, 0, 0, 0, .slice (some ⟨w4.heap.size, 0, none⟩) 1 1⟩, .int .i64 ((k : Nat) : Int), .bool b]) (by simp only at s0 s1 s2 s3 s4 s5; simp [results, Tryz.results156, go_sem, s0, s1, s2, s3, s4, s5]) rfl ⟨_, _, k, b, rfl, hq, hb, HF.out.le, HF.out.fin⟩
 ·have t33 : (v == 33) = false := beq_false_of_ne e33
  replace HO := Lib.hid (HO.out.trans (if_neg e33))
  have HC0 := Lib.hid (HATOM.out i w1 HI.out)
  clear HL0 HA0 HSUB HATOM e33
  go_wp2_with fail
  refine HC0.out.mono ?_
  rintro e w3 ⟨c, q, k, b, rfl, hq, hb, hk, hr⟩
  have HXL := Lib.hid HX.out.lt
  replace HX := Lib.hid (HX.out.below hb)
  replace HB := Lib.hid (HB.out.trans (hb.mono HB.out.size))
  have HC := Lib.hid (hq.mono (M := fun g => w.heap.size < g ∧ g < w3.heap.size) (fun g h h2 => ⟨Nat.lt_of_lt_of_le HXL.out h, h2⟩))
  have HK := Lib.hid hk
  have hki : (k : Int) ≤ 100000200 := by have := HS.out; have := HM.out; omega
  have HR := Lib.hid hr
  obtain ⟨pa, pcap, hpa⟩ := hq.rd.forms
  generalize q.args.length = pn at *
  obtain ⟨p0, p1, p2, p3, p4, p5⟩ := c
  simp only at hpa
  subst hpa
  clear hb hq hr hk HC0
  simp only [aggP]
  go_upto_region 7 with fail
  generalize hW : World.alloc w3 _ = w4
  obtain ⟨ha, -, hz1, hb1⟩ := alloc_of hW
  have HY := Lib.hid (show BoxP w3.heap.size ⟨p0, p1, p2, p3, p4, .slice pa pn pcap⟩ w4 from ha)
  have HLT := Lib.hid HX.out.lt
  replace HX := Lib.hid (HX.out.below hb1)
  replace HB := Lib.hid (HB.out.trans (hb1.mono HB.out.size))
  replace HC := Lib.hid ((HC.out.mono (M := fun g => w.heap.size < g ∧ g ≠ w3.heap.size) (fun g h _ => ⟨h.1, by omega⟩)).stay hb1)
  have HYL := Lib.hid HY.out.lt
  have HM99 : Hid (w.heap.size < w3.heap.size) := HLT.out
  clear hW ha hz1 hb1
  generalize w3.heap.size = m9 at *
  have HPB := Lib.hid (post_start HK.out HR.out HO.out)
  clear HR HO HK hki
  go_wp2_with fail
  go_loopw [13, 15] (fun kv nv wr => ∃ (k j : Nat) (q : RX) (c : PC), kv = .int .i64 (k : Int) ∧ nv = .int .i64 (j : Int) ∧ Hid (PostB s (m + 2) O q k j b) ∧ Hid (RdQ (fun g => w.heap.size < g ∧ g ≠ m9) wr c q) ∧ Hid (BoxP m9 c wr) ∧ Hid (BoxP w.heap.size ⟨0, 0, 0, 0, 0, .slice none 0 0⟩ wr) ∧ Hid (Below w.heap.size w wr)) (fun _ nv _ => 50 - (intOf nv).toNat)
  case atStart => exact ⟨k, 0, q, _, rfl, rfl, HPB.out, HC.out, HY.out, HX.out, HB.out⟩
  case round =>
   clear HX HB HY HC HPB HYL
   obtain ⟨k, j, q, c, rfl, rfl, HPB, HC, HY, HX, HB⟩ := hrel
   have HRP := Lib.hid (fun w' (h : RdQ (fun g => w.heap.size < g ∧ g ≠ m9) w' c q) (h1 : k ≤ s.size) => Rrepeated_any _ s k q c w' HS.out h1 h)
   obtain ⟨pa, pcap, hpa⟩ := HC.out.rd.forms
   generalize q.args.length = pn at *
   obtain ⟨p0, p1, p2, p3, p4, p5⟩ := c
   simp only at hpa
   subst hpa
   cases b with
   | false =>
    have HF := Lib.hid (HPB.out.fls rfl)
    clear HPB HRP
    obtain ⟨z0, z1, z2, z3, z4, z5⟩ := HX.out.cells
    obtain ⟨y0, y1, y2, y3, y4, y5⟩ := HX.out.free
    simp only at z0 z1 z2 z3 z4 z5
    obtain ⟨x0, x1, x2, x3, x4, x5⟩ := HY.out.cells
    obtain ⟨f0, f1, f2, f3, f4, f5⟩ := HY.out.free
    simp only at x0 x1 x2 x3 x4 x5
    go_wp2_with fail
    generalize hW : World.setCell _ _ _ = w9
    obtain ⟨hbx, hq, hb⟩ := par_fin (d := ⟨p0, p1, p2, p3, p4, .slice pa pn pcap⟩) HX.out HB.out (HC.out.mono (fun g h _ => h.1)) hW
    obtain ⟨s0, s1, s2, s3, s4, s5⟩ := hbx.cells
    refine bodyPost_ret (v := .tuple #[aggP ⟨p0, p1, p2, p3, p4, .slice pa pn pcap⟩, .int .i64 ((k : Nat) : Int), .bool false]) (by simp only at s0 s1 s2 s3 s4 s5; simp [results, Tryz.results156, go_sem, s0, s1, s2, s3, s4, s5]) rfl ⟨_, _, k, false, rfl, hq, hb, HF.out.le, HF.out.fin⟩
   | true =>
    have HPI := Lib.hid (HPB.out.tru rfl)
    have hki : (k : Int) ≤ 100000000 := by have := HS.out; have := HPI.out.le; omega
    have hj49 : (j : Int) ≤ 49 := by have := HPI.out.nn; omega
    clear HPB
    by_cases hj : j ≤ 48
    case neg =>
     have HF := Lib.hid (HPI.out.last hj)
     have hj2 : ¬ (j : Int) ≤ 48 := by omega
     clear hj HPI HRP hj49
     obtain ⟨z0, z1, z2, z3, z4, z5⟩ := HX.out.cells
     obtain ⟨y0, y1, y2, y3, y4, y5⟩ := HX.out.free
     simp only at z0 z1 z2 z3 z4 z5
     obtain ⟨x0, x1, x2, x3, x4, x5⟩ := HY.out.cells
     obtain ⟨f0, f1, f2, f3, f4, f5⟩ := HY.out.free
     simp only at x0 x1 x2 x3 x4 x5
     go_wp2_with fail
     generalize hW : World.setCell _ _ _ = w9
     obtain ⟨hbx, hq, hb⟩ := par_fin (d := ⟨p0, p1, p2, p3, p4, .slice pa pn pcap⟩) HX.out HB.out (HC.out.mono (fun g h _ => h.1)) hW
     obtain ⟨s0, s1, s2, s3, s4, s5⟩ := hbx.cells
     refine bodyPost_ret (v := .tuple #[aggP ⟨p0, p1, p2, p3, p4, .slice pa pn pcap⟩, .int .i64 ((k : Nat) : Int), .bool true]) (by simp only at s0 s1 s2 s3 s4 s5; simp [results, Tryz.results156, go_sem, s0, s1, s2, s3, s4, s5]) rfl ⟨_, _, k, true, rfl, hq, hb, HF.out.le, HF.out.fin⟩
    case pos =>
     have hj2 : (j : Int) ≤ 48 := by omega
     have HJ := Lib.hid hj
     have HCR := Lib.hid (HRP.out wr HC.out HPI.out.le)
     simp only [aggP] at HCR
     clear hj HRP
     obtain ⟨x0, x1, x2, x3, x4, x5⟩ := HY.out.cells
     obtain ⟨f0, f1, f2, f3, f4, f5⟩ := HY.out.free
     simp only at x0 x1 x2 x3 x4 x5
     go_wp2_with fail
     refine HCR.out.mono ?_
     rintro e w4 ⟨c2, q2, k2, b2, rfl, hq, hb, hr⟩
     have HXL := Lib.hid HX.out.lt
     have HYL := Lib.hid HY.out.lt
     replace HX := Lib.hid (HX.out.below hb)
     replace HB := Lib.hid (HB.out.trans (hb.mono HB.out.size))
     replace HY := Lib.hid (HY.out.below hb)
     have HC2 := Lib.hid (hq.mono (M := fun g => (w.heap.size < g ∧ g ≠ m9) ∧ g < w4.heap.size) (fun g h h2 => ⟨by rcases h with h | h; exact h; exact ⟨by have := HXL.out; omega, by have := HYL.out; omega⟩, h2⟩))
     replace HC := Lib.hid ((HC.out.mono (M := fun g => (w.heap.size < g ∧ g ≠ m9) ∧ g < wr.heap.size) (fun g h h2 => ⟨h, h2⟩)).stay hb)
     have HR := Lib.hid hr
     obtain ⟨qa, qcap, hqa⟩ := hq.rd.forms
     generalize q2.args.length = qn at *
     obtain ⟨q0, q1, q22, q3, q4, q5⟩ := c2
     simp only at hqa
     subst hqa
     clear hq hb hr HCR x0 x1 x2 x3 x4 x5 f0 f1 f2 f3 f4 f5
     simp only [aggP]
     go_upto_region 11 with fail
     generalize hW : World.alloc w4 _ = w5
     obtain ⟨ha, -, hz1, hb1⟩ := alloc_of hW
     have HQB := Lib.hid (show BoxP w4.heap.size ⟨q0, q1, q22, q3, q4, .slice qa qn qcap⟩ w5 from ha)
     have HYL4 := Lib.hid HY.out.lt
     replace HX := Lib.hid (HX.out.below hb1)
     replace HB := Lib.hid (HB.out.trans (hb1.mono HB.out.size))
     replace HY := Lib.hid (HY.out.below hb1)
     replace HC := Lib.hid (HC.out.stay hb1)
     replace HC2 := Lib.hid (HC2.out.stay hb1)
     have HMM : Hid (w4.heap.size ≠ m9 ∧ w.heap.size < m9) := ⟨by have := HYL4.out; omega, HM99.out⟩
     clear hW ha hz1 hb1 HYL4 HXL
     obtain ⟨x0, x1, x2, x3, x4, x5⟩ := HY.out.cells
     obtain ⟨f0, f1, f2, f3, f4, f5⟩ := HY.out.free
     simp only at x0 x1 x2 x3 x4 x5
     obtain ⟨v0, v1, v2, v3, v4, v5⟩ := HQB.out.cells
     obtain ⟨g0, g1, g2, g3, g4, g5⟩ := HQB.out.free
     simp only at v0 v1 v2 v3 v4 v5
     cases hbd : bndQ ((L s).drop k) with
     | yes mn mx r =>
      rw [hbd] at HR
      obtain ⟨hbt, hq2, hks, hkr⟩ := HR.out
      subst hbt
      subst hq2
      have HPN := Lib.hid (HPI.out.next HJ.out hbd hks hkr)
      clear HR hbd hks hkr HPI HC
      go_wp2_with fail
      generalize hW : World.setCell _ _ _ = w9
      obtain ⟨hb1, hb2⟩ := HY.out.set (d := ⟨q0, q1, q22, q3, q4, .slice qa qn qcap⟩) hW
      have hot := set6_other hW
      exact ⟨⟨k2, j + 1, _, _, rfl, rfl, ⟨fun h => (by cases h), fun _ => HPN.out⟩, (HC2.out.keep (w' := w9) (fun x hx _ => hot x hx.1.2)).mono (fun g h _ => h.1), hb1, (hot _ (by have := HMM.out; omega)).trans HX.out, HB.out.trans (hb2.mono (Nat.le_of_lt HMM.out.2))⟩, by simp [intOf]; omega⟩
     | no =>
      rw [hbd] at HR
      have hbf := HR.out
      subst hbf
      have HF := Lib.hid (HPI.out.stop HJ.out hbd)
      clear HR hbd HPI HC2
      obtain ⟨z0, z1, z2, z3, z4, z5⟩ := HX.out.cells
      obtain ⟨y0, y1, y2, y3, y4, y5⟩ := HX.out.free
      simp only at z0 z1 z2 z3 z4 z5
      go_wp2_with fail
      generalize hW : World.setCell _ _ _ = w9
      obtain ⟨hbx, hq, hb⟩ := par_fin (d := ⟨p0, p1, p2, p3, p4, .slice pa pn pcap⟩) HX.out HB.out (HC.out.mono (fun g h _ => h.1.1)) hW
      obtain ⟨s0, s1, s2, s3, s4, s5⟩ := hbx.cells
      refine bodyPost_ret (v := .tuple #[aggP ⟨p0, p1, p2, p3, p4, .slice pa pn pcap⟩, .int .i64 ((k : Nat) : Int), .bool true]) (by simp only at s0 s1 s2 s3 s4 s5; simp [results, Tryz.results156, go_sem, s0, s1, s2, s3, s4, s5]) rfl ⟨_, _, k, true, rfl, hq, hb, HF.out.le, HF.out.fin⟩
     | bad => exact absurd hbd bndQ_bad
end Go.Proofs.YtpkecepelcppiaaGreatDoor

namespace Go.Proofs.YtpkecepelcppiaaGreatDoor
open Go.RowKit Go.Shelf
set_option maxRecDepth 100000
set_option maxHeartbeats 1000000

theorem postQ_few (D : Nat) : ∀ (f : Nat) (p : RX) (l : List UInt8) (q : RX) (r : List UInt8), postP pgQ f p l = some (q, r) → cntN D q + 2 * r.length ≤ cntN D p + 2 * l.length
 | 0, p, l, q, r, h => by cases h; exact Nat.le_refl _
 | f + 1, p, l, q, r, h => by
  rw [postP] at h
  split at h
  ·cases h
   exact Nat.le_refl _
  ·cases h
  ·rename_i mn mx r' e
   have h1 := bndQ_eats e
   have h2 := postQ_few D f _ _ _ _ h
   have h3 := cnt_sng D 5 0 0 mn mx p
   omega
theorem atomQ_few (D : Nat) (sub : Option (List UInt8 → Option (RX × List UInt8))) (h1 : ∀ f, sub = some f → Few D f) : Few D (atomP pgQ sub) := by
 intro l p r h
 cases l with
 | nil => cases h
 | cons c t =>
  rw [List.length_cons]
  unfold atomP at h
  dsimp only at h
  split at h
  ·split at h
   ·cases h
    have := cnt_leaf D 1 0 0 0 0
    rw [List.length_drop]
    omega
   ·split at h
    ·cases h
    ·rename_i f
     split at h
     ·cases h
     ·rename_i q r1 e1
      have h2 := h1 _ rfl _ _ _ e1
      rw [Option.map_eq_some_iff] at h
      obtain ⟨r2, e2, e3⟩ := h
      have h3 := need_eats e2
      cases e3
      omega
  split at h
  ·split at h
   ·cases h
    have := cnt_leaf D 0 0 0 0 0
    rw [List.length_drop]
    omega
   ·split at h
    ·cases h
    ·rename_i lo t1 e1
     have h2 := oneQ_eats _ _ _ e1
     split at h
     ·cases h
     ·rename_i t2 e2
      have h3 := need_eats e2
      split at h
      ·cases h
      ·rename_i hi t3 e3
       have h4 := oneQ_eats _ _ _ e3
       rw [Option.map_eq_some_iff] at h
       obtain ⟨r2, e4, e5⟩ := h
       have h5 := need_eats e4
       have := cnt_leaf D 2 lo hi 0 0
       cases e5
       unfold rngR
       omega
  split at h
  ·cases h
   have := cnt_leaf D 2 (0 : Nat) (255 : Nat) 0 0
   unfold rngR
   omega
  ·rw [Option.map_eq_some_iff] at h
   obtain ⟨⟨b, r2⟩, e4, e5⟩ := h
   have h5 := oneQ_eats (c :: t) _ _ e4
   rw [List.length_cons] at h5
   have := cnt_leaf D 2 b b 0 0
   have e6 : rngR b b = p := congrArg Prod.fst e5
   have e7 : r2 = r := congrArg Prod.snd e5
   rw [← e6, ← e7]
   unfold rngR
   omega
theorem preQ_few (D : Nat) : ∀ n, Few D (preP pgQ n)
 | 0 => by
  intro l p r h
  rw [preP] at h
  split at h
  ·cases h
  ·rw [Option.bind_eq_some_iff] at h
   obtain ⟨⟨q, r1⟩, e1, e2⟩ := h
   have h1 := atomQ_few D none (fun f h => by cases h) _ _ _ e1
   have h2 := postQ_few D _ _ _ _ _ e2
   omega
 | n + 1 => by
  intro l p r h
  have ih := preQ_few D n
  rw [preP] at h
  split at h
  ·rw [Option.map_eq_some_iff] at h
   obtain ⟨⟨q, r1⟩, e1, e2⟩ := h
   have h1 := ih _ _ _ e1
   rw [List.length_drop] at h1
   have h2 := cnt_sng D 7 0 0 0 0 q
   cases e2
   unfold sngR
   omega
  ·rw [Option.bind_eq_some_iff] at h
   obtain ⟨⟨q, r1⟩, e1, e2⟩ := h
   have h1 := atomQ_few D (some (inf1 (preP pgQ n))) (fun f h => by cases h; exact inf_few D 4 _ (inf_few D 6 _ (inf_few D 3 _ ih))) _ _ _ e1
   have h2 := postQ_few D _ _ _ _ _ e2
   omega
theorem inf1Q_few (D n : Nat) : Few D (inf1 (preP pgQ n)) := inf_few D 4 _ (inf_few D 6 _ (inf_few D 3 _ (preQ_few D n)))
theorem inf2_eats {P : List UInt8 → Option (RX × List UInt8)} (h : Eats P) : Eats (inf2 P) := inf_eats 6 _ (inf_eats 3 _ h)
theorem Ralt_of (s : ByteArray) (left : Int) (P : List UInt8 → Option (RX × List UInt8)) (heat : Eats P) (m : Nat) (hs : s.size ≤ 100000000) (hm : m ≤ 200)
  (hnot : ∀ (i : Nat) (w : World), i ≤ s.size → Calls Tryz.prog 156 #[.string s, .int .i64 (i : Int), .int .i64 left] w (ParO s m (P ((L s).drop i)) w)) :
  ∀ (i : Nat) (w : World), i ≤ s.size → Calls Tryz.prog 68 #[.string s, .int .i64 (i : Int), .int .i64 left] w (ParO s m (inf1 P ((L s).drop i)) w) :=
 fun i w hi => Ralt_any s left (inf2 P) (inf2_eats heat) m hs hm (fun i w hi => Rand_any s left (inf3 P) (inf_eats 3 _ heat) m hs hm (fun i w hi => Rcat_any s left P heat m hs hm hnot i w hi) i w hi) i w hi
theorem Rnot_step (s : ByteArray) (n : Nat) (hn : n ≤ 48) (m : Nat) (hs : s.size ≤ 100000000) (hm : m ≤ 100)
  (hsub : ∀ (i : Nat) (w : World), i ≤ s.size → Calls Tryz.prog 156 #[.string s, .int .i64 (i : Int), .int .i64 ((n : Int) - 1)] w (ParO s m (subQ n ((L s).drop i)) w)) :
  ∀ (i : Nat) (w : World), i ≤ s.size → Calls Tryz.prog 156 #[.string s, .int .i64 (i : Int), .int .i64 (n : Int)] w (ParO s (m + 2) (preP pgQ n ((L s).drop i)) w) :=
 fun i w hi => Rnot_any s n hn m hs hm hsub (fun i w hi => Ratom_any s (n : Int) (inf1 (subQ n)) m hs hm ⟨by omega, by omega⟩ (Ralt_of s ((n : Int) - 1) (subQ n) (sub_eats n) m hs (by omega) hsub) i w hi) i w hi
theorem Rnot_all (s : ByteArray) (hs : s.size ≤ 100000000) : ∀ n : Nat, n ≤ 48 → ∀ (i : Nat) (w : World), i ≤ s.size → Calls Tryz.prog 156 #[.string s, .int .i64 (i : Int), .int .i64 (n : Int)] w (ParO s (2 * n + 2) (preP pgQ n ((L s).drop i)) w)
 | 0, h => Rnot_step s 0 h 0 hs (by omega) (fun i w hi => Rnot_neg s 0 i w hi)
 | n + 1, h => Rnot_step s (n + 1) h (2 * n + 2) hs (by omega) (fun i w hi => by
   have := Rnot_all s hs n (by omega) i w hi
   rw [show (((n + 1 : Nat) : Int) - 1) = (n : Int) by omega]
   exact this)
theorem Rparser_all (s : ByteArray) (hs : s.size ≤ 100000000) (w : World) : Calls Tryz.prog 68 #[.string s, .int .i64 0, .int .i64 48] w (ParO s 98 (inf1 (preP pgQ 48) (L s)) w) :=
 Ralt_of s 48 (preP pgQ 48) (preQ_eats 48) 98 hs (by omega) (Rnot_all s hs 48 (Nat.le_refl _)) 0 w (Nat.zero_le _)
end Go.Proofs.YtpkecepelcppiaaGreatDoor

namespace Go.Proofs.YtpkecepelcppiaaGreatDoor
open Go.RowKit Go.Shelf
set_option maxHeartbeats 4000000
set_option maxRecDepth 100000

def ParQ (O : Option RX) (w : World) (e : Ending) (w' : World) : Prop :=
 Below w.heap.size w w' ∧ match O with
  | some p => ∃ c, e = .returned (.tuple #[aggP c, .int .i64 0]) ∧ RdQ (fun g => w.heap.size ≤ g) w' c p
  | none => e = .returned (.tuple #[aggP ⟨0, 0, 0, 0, 0, .slice none 0 0⟩, .int .i64 3])
theorem parseQ_R (l : List UInt8) : parseQ l = (inf1 (preP pgQ 48) l).bind fun x => if x.2 ≠ [] ∨ textR x.1 ≠ l then none else some x.1 := by
 unfold parseQ
 cases inf1 (preP pgQ 48) l with
 | none => rfl
 | some x => rfl
theorem drop_end {s : ByteArray} {k : Nat} (hk : k ≤ s.size) : ((L s).drop k = []) ↔ k = s.size := by
 rw [List.drop_eq_nil_iff, L_len]
 omega
theorem RParse_any (s : ByteArray) (w : World) (hs : s.size ≤ 100000000) : Calls Tryz.prog 46 #[.string s] w (ParQ (parseQ (L s)) w) := by
 have hsi : (s.size : Int) ≤ 100000000 := by omega
 have HS := Lib.hid hs
 have HC0 := Lib.hid (fun w' => Rparser_all s hs w')
 have HO := Lib.hid (parseQ_R (L s))
 have HFEW := Lib.hid (fun p r => inf1Q_few 48 48 (L s) p r)
 generalize parseQ (L s) = O at *
 generalize inf1 (preP pgQ 48) (L s) = R at *
 clear hs
 go_enter Tryz.func46, Tryz.ntmps46
 go_upto_region 1 with fail
 generalize hW : World.alloc w _ = w1
 obtain ⟨ha, -, hz1, hb1⟩ := alloc_of hW
 have HX := Lib.hid (show BoxP w.heap.size ⟨0, 0, 0, 0, 0, .slice none 0 0⟩ w1 from ha)
 have HB := Lib.hid hb1
 clear hW ha hz1 hb1
 go_wp2_with fail
 refine (HC0.out w1).mono ?_
 rintro e w3 ⟨c, q, k, b, rfl, hq, hb, hk, hr⟩
 have HXL := Lib.hid HX.out.lt
 replace HX := Lib.hid (HX.out.below hb)
 replace HB := Lib.hid (HB.out.trans (hb.mono HB.out.size))
 have HC := Lib.hid (hq.mono (M := fun g => w.heap.size < g ∧ g < w3.heap.size) (fun g h h2 => ⟨Nat.lt_of_lt_of_le HXL.out h, h2⟩))
 have HR := Lib.hid hr
 have hki : (k : Int) ≤ 100000200 := by omega
 obtain ⟨pa, pcap, hpa⟩ := hq.rd.forms
 generalize q.args.length = pn at *
 obtain ⟨p0, p1, p2, p3, p4, p5⟩ := c
 simp only at hpa
 subst hpa
 clear hb hq hr hk HC0
 simp only [aggP]
 go_upto_region 2 with fail
 generalize hW : World.alloc w3 _ = w4
 obtain ⟨ha, -, hz1, hb1⟩ := alloc_of hW
 have HY := Lib.hid (show BoxP w3.heap.size ⟨p0, p1, p2, p3, p4, .slice pa pn pcap⟩ w4 from ha)
 have HLT := Lib.hid HX.out.lt
 replace HX := Lib.hid (HX.out.below hb1)
 replace HB := Lib.hid (HB.out.trans (hb1.mono HB.out.size))
 replace HC := Lib.hid (HC.out.stay hb1)
 clear hW ha hz1 hb1
 cases b with
 | false =>
  have HF : Hid (O = none) := by
   unfold Hid
   rw [HO.out]
   cases R with
   | none => rfl
   | some x =>
    have h : false = true := HR.out.1
    cases h
  clear HO HR HFEW
  obtain ⟨z0, z1, z2, z3, z4, z5⟩ := HX.out.cells
  obtain ⟨y0, y1, y2, y3, y4, y5⟩ := HX.out.free
  simp only at z0 z1 z2 z3 z4 z5
  obtain ⟨x0, x1, x2, x3, x4, x5⟩ := HY.out.cells
  obtain ⟨f0, f1, f2, f3, f4, f5⟩ := HY.out.free
  simp only at x0 x1 x2 x3 x4 x5
  go_wp2_with fail
  generalize hW : World.setCell _ _ _ = w9
  obtain ⟨hbx, hq, hb⟩ := par_fin (d := ⟨0, 0, 0, 0, 0, .slice none 0 0⟩) HX.out HB.out (leaf_rdq _ _ 0 0 0) hW
  obtain ⟨s0, s1, s2, s3, s4, s5⟩ := hbx.cells
  refine bodyPost_ret (v := .tuple #[aggP ⟨0, 0, 0, 0, 0, .slice none 0 0⟩, .int .i64 3]) (by simp only at s0 s1 s2 s3 s4 s5; simp [results, Tryz.results46, go_sem, s0, s1, s2, s3, s4, s5]) rfl ⟨hb, ?_⟩
  rw [HF.out]
 | true =>
  obtain ⟨hR, hks⟩ : R = some (q, (L s).drop k) ∧ k ≤ s.size := by
   cases R with
   | none =>
    have h : true = false := HR.out
    cases h
   | some x =>
    obtain ⟨p, r⟩ := x
    obtain ⟨-, h1, h2, h3⟩ := HR.out
    dsimp only at h1 h3
    rw [h1, h3]
    exact ⟨rfl, h2⟩
  have HF1 := Lib.hid (HFEW.out q _ hR)
  replace HO : Hid (O = if (L s).drop k ≠ [] ∨ textR q ≠ L s then none else some q) := by unfold Hid; rw [HO.out, hR]; rfl
  clear HR HFEW hR
  by_cases hke : k = s.size
  case neg =>
   have HF : Hid (O = none) := HO.out.trans (if_pos (.inl (fun h => hke ((drop_end hks).1 h))))
   have hkn : ((k : Int) != (s.size : Int)) = true := bne_iff_ne.2 (by omega)
   clear HO hke HF1 hks
   obtain ⟨z0, z1, z2, z3, z4, z5⟩ := HX.out.cells
   obtain ⟨y0, y1, y2, y3, y4, y5⟩ := HX.out.free
   simp only at z0 z1 z2 z3 z4 z5
   obtain ⟨x0, x1, x2, x3, x4, x5⟩ := HY.out.cells
   obtain ⟨f0, f1, f2, f3, f4, f5⟩ := HY.out.free
   simp only at x0 x1 x2 x3 x4 x5
   go_wp2_with fail
   generalize hW : World.setCell _ _ _ = w9
   obtain ⟨hbx, hq, hb⟩ := par_fin (d := ⟨0, 0, 0, 0, 0, .slice none 0 0⟩) HX.out HB.out (leaf_rdq _ _ 0 0 0) hW
   obtain ⟨s0, s1, s2, s3, s4, s5⟩ := hbx.cells
   refine bodyPost_ret (v := .tuple #[aggP ⟨0, 0, 0, 0, 0, .slice none 0 0⟩, .int .i64 3]) (by simp only at s0 s1 s2 s3 s4 s5; simp [results, Tryz.results46, go_sem, s0, s1, s2, s3, s4, s5]) rfl ⟨hb, ?_⟩
   rw [HF.out]
  case pos =>
   have hkn : ((k : Int) != (s.size : Int)) = false := by rw [hke]; simp
   have HTX := Lib.hid (fun w' (h : RdP w' ⟨p0, p1, p2, p3, p4, .slice pa pn pcap⟩ q) => RText_any q ⟨p0, p1, p2, p3, p4, .slice pa pn pcap⟩ w' h (fun hv => by have := text_le hv (by have h1 := HF1.out; have h2 := HS.out; rw [L_len] at h1; omega); omega))
   simp only [aggP] at HTX
   replace HO : Hid (O = if textR q ≠ L s then none else some q) := by
    unfold Hid
    rw [HO.out]
    by_cases h : textR q = L s
    ·rw [if_neg (fun h2 => by rcases h2 with h2 | h2; exact h2 ((drop_end hks).2 hke); exact h2 h), if_neg (fun h2 => h2 h)]
    ·rw [if_pos (.inr h), if_pos h]
   clear hke HF1 hks
   obtain ⟨x0, x1, x2, x3, x4, x5⟩ := HY.out.cells
   obtain ⟨f0, f1, f2, f3, f4, f5⟩ := HY.out.free
   simp only at x0 x1 x2 x3 x4 x5
   go_wp2_with fail
   refine (HTX.out w4 HC.out.rd).mono ?_
   rintro e w5 ⟨⟨u, rfl, hu⟩, hb⟩
   replace HX := Lib.hid (HX.out.below hb)
   replace HB := Lib.hid (HB.out.trans (hb.mono HB.out.size))
   replace HC := Lib.hid (HC.out.stay hb)
   replace HY := Lib.hid (HY.out.below hb)
   rw [← hu] at HO
   clear hb hu HTX x0 x1 x2 x3 x4 x5 f0 f1 f2 f3 f4 f5
   by_cases hu2 : L u = L s
   ·have tu : (u.toList == s.toList) = true := by rw [toList_L, toList_L, hu2]; exact beq_self_eq_true _
    have HF := Lib.hid (HO.out.trans (if_neg (fun h => h hu2)))
    clear HO hu2
    obtain ⟨z0, z1, z2, z3, z4, z5⟩ := HX.out.cells
    obtain ⟨y0, y1, y2, y3, y4, y5⟩ := HX.out.free
    simp only at z0 z1 z2 z3 z4 z5
    obtain ⟨x0, x1, x2, x3, x4, x5⟩ := HY.out.cells
    obtain ⟨f0, f1, f2, f3, f4, f5⟩ := HY.out.free
    simp only at x0 x1 x2 x3 x4 x5
    go_wp2_with fail
    generalize hW : World.setCell _ _ _ = w9
    obtain ⟨hbx, hq, hb⟩ := par_fin (d := ⟨p0, p1, p2, p3, p4, .slice pa pn pcap⟩) HX.out HB.out (HC.out.mono (fun g h _ => h.1)) hW
    obtain ⟨s0, s1, s2, s3, s4, s5⟩ := hbx.cells
    refine bodyPost_ret (v := .tuple #[aggP ⟨p0, p1, p2, p3, p4, .slice pa pn pcap⟩, .int .i64 0]) (by simp only at s0 s1 s2 s3 s4 s5; simp [results, Tryz.results46, go_sem, s0, s1, s2, s3, s4, s5]) rfl ⟨hb, ?_⟩
    rw [HF.out]
    exact ⟨_, rfl, hq⟩
   ·have tu : (u.toList == s.toList) = false := by rw [toList_L, toList_L]; exact beq_false_of_ne hu2
    have HF := Lib.hid (HO.out.trans (if_pos hu2))
    clear HO hu2
    obtain ⟨z0, z1, z2, z3, z4, z5⟩ := HX.out.cells
    obtain ⟨y0, y1, y2, y3, y4, y5⟩ := HX.out.free
    simp only at z0 z1 z2 z3 z4 z5
    obtain ⟨x0, x1, x2, x3, x4, x5⟩ := HY.out.cells
    obtain ⟨f0, f1, f2, f3, f4, f5⟩ := HY.out.free
    simp only at x0 x1 x2 x3 x4 x5
    go_wp2_with fail
    generalize hW : World.setCell _ _ _ = w9
    obtain ⟨hbx, hq, hb⟩ := par_fin (d := ⟨0, 0, 0, 0, 0, .slice none 0 0⟩) HX.out HB.out (leaf_rdq _ _ 0 0 0) hW
    obtain ⟨s0, s1, s2, s3, s4, s5⟩ := hbx.cells
    refine bodyPost_ret (v := .tuple #[aggP ⟨0, 0, 0, 0, 0, .slice none 0 0⟩, .int .i64 3]) (by simp only at s0 s1 s2 s3 s4 s5; simp [results, Tryz.results46, go_sem, s0, s1, s2, s3, s4, s5]) rfl ⟨hb, ?_⟩
    rw [HF.out]
end Go.Proofs.YtpkecepelcppiaaGreatDoor

namespace Go.Proofs.YtpkecepelcppiaaGreatDoor
open Go.RowKit Go.Shelf
set_option maxHeartbeats 4000000
set_option maxRecDepth 100000

structure AwS (b1 b9 : Nat) (c1 c9 : PC) (p q : RX) (w0 w : World) : Prop where
 x1 : BoxP b1 c1 w
 x9 : BoxP b9 c9 w
 r1 : RdP w c1 p
 r9 : RdP w c9 q
 bel : Below w0.heap.size w0 w
theorem AwS.stay {b1 b9 : Nat} {c1 c9 : PC} {p q : RX} {w0 w w' : World} (h : AwS b1 b9 c1 c9 p q w0 w) (hb : Below w.heap.size w w') : AwS b1 b9 c1 c9 p q w0 w' := ⟨h.x1.below hb, h.x9.below hb, h.r1.stays hb, h.r9.stays hb, h.bel.trans (hb.mono h.bel.size)⟩
end Go.Proofs.YtpkecepelcppiaaGreatDoor
