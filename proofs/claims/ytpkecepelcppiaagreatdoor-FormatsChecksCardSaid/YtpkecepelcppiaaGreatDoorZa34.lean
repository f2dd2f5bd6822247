/- The specification's parser: each reading uses up at least a byte; its loops by rounds. No program in sight. Conditions: none. -/
import Derived.Test.YtpkecepelcppiaaGreatDoorZa33
import Derived.Test.YtpkecepelcppiaaGreatDoorZa20
import Derived.Test.YtpkecepelcppiaaGreatDoorZa15
import Derived.Test.YtpkecepelcppiaaGreatDoorZa16
namespace Go.Proofs.YtpkecepelcppiaaGreatDoor
open Go.RowKit Go.Shelf
set_option maxHeartbeats 4000000
set_option maxRecDepth 100000

end Go.Proofs.YtpkecepelcppiaaGreatDoor

namespace Go.Proofs.YtpkecepelcppiaaGreatDoor
open Go.RowKit Go.Shelf
set_option maxHeartbeats 4000000
set_option maxRecDepth 100000

def RetF (p : RX) (w : World) (e : Ending) (w' : World) : Prop := ∃ c, e = .returned (aggP c) ∧ RdP w' c p ∧ Below w.heap.size w w'
theorem RetF.fin {w0 w w4 : World} {d z : PC} {p : RX} (hx : BoxP (w0.heap.size + 1) z w) (hb : Below w0.heap.size w0 w) (hd : RdQ (fun g => g ≠ w0.heap.size + 1) w d p)
  (he : ((((((w.setCell ⟨w0.heap.size + 1, 0, none⟩ (.int .i64 d.op)).setCell ⟨w0.heap.size + 1, 1, none⟩ (.int .i64 d.lo)).setCell ⟨w0.heap.size + 1, 2, none⟩ (.int .i64 d.hi)).setCell ⟨w0.heap.size + 1, 3, none⟩ (.int .i64 d.mn)).setCell ⟨w0.heap.size + 1, 4, none⟩ (.int .i64 d.mx)).setCell ⟨w0.heap.size + 1, 5, none⟩ d.a) = w4) :
  BoxP (w0.heap.size + 1) d w4 ∧ RetF p w0 (.returned (aggP d)) w4 := by
 obtain ⟨b1, b2⟩ := hx.set he
 have ho := set6_other he
 exact ⟨b1, d, rfl, (hd.keep (w' := w4) (fun x hx _ => ho x hx)).rd, hb.trans (b2.mono (by omega))⟩
end Go.Proofs.YtpkecepelcppiaaGreatDoor

namespace Go.Proofs.YtpkecepelcppiaaGreatDoor
open Go.RowKit Go.Shelf
set_option maxHeartbeats 4000000
set_option maxRecDepth 100000

def BndO (N : Nat → Prop) (s : ByteArray) (i : Nat) (p : RX) (w : World) (e : Ending) (w' : World) : Prop :=
 ∃ c q k b, e = .returned (.tuple #[aggP c, .int .i64 ((k : Nat) : Int), .bool b]) ∧ RdQ (fun g => N g ∨ w.heap.size ≤ g) w' c q ∧ Below w.heap.size w w' ∧
  match bndQ ((L s).drop i) with
  | .yes mn mx r => b = true ∧ q = .mk 5 0 0 mn mx [p] ∧ k ≤ s.size ∧ (L s).drop k = r
  | _ => b = false
structure RepS (N : Nat → Prop) (p : RX) (c : PC) (w wr : World) : Prop where
 box : BoxP w.heap.size c wr
 ret : BoxP (w.heap.size + 1) ⟨0, 0, 0, 0, 0, .slice none 0 0⟩ wr
 row : BoxP (w.heap.size + 2) c wr
 bel : Below w.heap.size w wr
 rd : RdQ (fun g => N g ∧ g < w.heap.size) wr c p
theorem RepS.node {N : Nat → Prop} {p : RX} {c : PC} {w wr : World} (h : RepS N p c w wr) (mn mx : Int) :
  RdQ (fun g => (N g ∧ g < w.heap.size) ∨ w.heap.size + 2 ≤ g) wr ⟨5, 0, 0, mn, mx, .slice (some ⟨w.heap.size + 2, 0, none⟩) 1 1⟩ (.mk 5 0 0 mn mx [p]) :=
 (OwnP.one h.row (h.rd.mono (M := fun x => ((N x ∧ x < w.heap.size) ∨ w.heap.size + 2 ≤ x) ∧ x ≠ w.heap.size + 2) (fun g hg _ => ⟨.inl hg, by omega⟩))).node2 (fun g hg => .inr (Nat.le_of_eq (own_one hg).symm)) 5 0 0 mn mx
theorem RepS.fin {N : Nat → Prop} {p q : RX} {c d : PC} {w wr w4 : World} (h : RepS N p c w wr) (hd : RdQ (fun g => (N g ∧ g < w.heap.size) ∨ w.heap.size + 2 ≤ g) wr d q)
  (he : ((((((wr.setCell ⟨w.heap.size + 1, 0, none⟩ (.int .i64 d.op)).setCell ⟨w.heap.size + 1, 1, none⟩ (.int .i64 d.lo)).setCell ⟨w.heap.size + 1, 2, none⟩ (.int .i64 d.hi)).setCell ⟨w.heap.size + 1, 3, none⟩ (.int .i64 d.mn)).setCell ⟨w.heap.size + 1, 4, none⟩ (.int .i64 d.mx)).setCell ⟨w.heap.size + 1, 5, none⟩ d.a) = w4) :
  BoxP (w.heap.size + 1) d w4 ∧ RdQ (fun g => N g ∨ w.heap.size ≤ g) w4 d q ∧ Below w.heap.size w w4 := by
 obtain ⟨b1, b2⟩ := h.ret.set he
 have ho := set6_other he
 exact ⟨b1, (hd.keep (fun x hx _ => ho x (by omega))).mono (fun g hg _ => by rcases hg with hg | hg; exact .inl hg.1; exact .inr (by omega)), h.bel.trans (b2.mono (by omega))⟩
theorem hdI_lt {s : ByteArray} {i : Nat} (h : 0 ≤ hdI ((L s).drop i)) : i < s.size := by
 rcases Nat.lt_or_ge i s.size with h2 | h2
 ·exact h2
 ·rw [List.drop_of_length_le (by rw [L_len]; exact h2)] at h
  exact absurd h (by decide)
theorem bndQ_one {s : ByteArray} {i : Nat} (x : UInt8) (mn mx : Int) (hx2 : ∀ t, bndP (x :: t) = .yes mn mx t) (h : hdI ((L s).drop i) = (x.toNat : Int)) : bndQ ((L s).drop i) = .yes mn mx ((L s).drop (i + 1)) := by
 have hlt : i < s.size := hdI_lt (by omega)
 rw [L_drop s i hlt] at h ⊢
 have h2 : ((s[i]).toNat : Int) = (x.toNat : Int) := h
 have h3 : s[i] = x := UInt8.toNat_inj.1 (by omega)
 rw [h3]
 unfold bndQ
 rw [hx2]
theorem bndQ_no {l : List UInt8} (h1 : ¬ hdI l = 42) (h2 : ¬ hdI l = 43) (h3 : ¬ hdI l = 63) (h4 : ¬ hdI l = 123) : bndQ l = .no := by
 cases l with
 | nil => rfl
 | cons c t =>
  have hh : hdI (c :: t) = (c.toNat : Int) := rfl
  rw [hh] at h1 h2 h3 h4
  have k1 : ¬ c = 42 := fun h => h1 (by rw [h]; rfl)
  have k2 : ¬ c = 43 := fun h => h2 (by rw [h]; rfl)
  have k3 : ¬ c = 63 := fun h => h3 (by rw [h]; rfl)
  have k4 : ¬ c = 123 := fun h => h4 (by rw [h]; rfl)
  have hb : bndP (c :: t) = .no := by
   rw [bndP, if_neg k1, if_neg k2, if_neg k3, if_neg k4]
  unfold bndQ
  rw [hb]
def brcI (l : List UInt8) : BndP := match numPR l with
 | none => .no
 | some (n, t1) => if hdI t1 = 44 then (if hdI (t1.drop 1) = 125 then .yes n (-1) (t1.drop 2) else match numPR (t1.drop 1) with
   | none => .no
   | some (m, t3) => if hdI t3 = 125 then .yes n m (t3.drop 1) else .no) else .no
theorem need_I (c : UInt8) (l : List UInt8) : needP c l = if hdI l = (c.toNat : Int) then some (l.drop 1) else none := by
 cases l with
 | nil => exact (if_neg (by show ¬ (-1 : Int) = _; omega)).symm
 | cons a t =>
  have h : hdI (a :: t) = (a.toNat : Int) := rfl
  rw [h, needP]
  by_cases hc : a = c
  ·rw [if_pos hc, if_pos (by rw [hc])]
   rfl
  ·rw [if_neg hc, if_neg (fun h => hc (UInt8.toNat_inj.1 (by omega)))]
theorem head_I (x : UInt8) (l : List UInt8) : (l.head? = some x) ↔ hdI l = (x.toNat : Int) := by
 cases l with
 | nil => exact ⟨fun h => (by cases h), fun h => (by have h : (-1 : Int) = (x.toNat : Int) := h; omega)⟩
 | cons a t =>
  show some a = some x ↔ (a.toNat : Int) = (x.toNat : Int)
  exact ⟨fun h => (by cases h; rfl), fun h => (by rw [UInt8.toNat_inj.1 (show a.toNat = x.toNat by omega)])⟩
theorem bndQ_br {s : ByteArray} {i : Nat} (h : hdI ((L s).drop i) = 123) : bndQ ((L s).drop i) = brcI ((L s).drop (i + 1)) := by
 have hlt : i < s.size := hdI_lt (by omega)
 rw [L_drop s i hlt] at h ⊢
 have h2 : ((s[i]).toNat : Int) = 123 := h
 have h3 : s[i] = 123 := UInt8.toNat_inj.1 (show (s[i]).toNat = 123 by omega)
 rw [h3]
 generalize (L s).drop (i + 1) = l
 unfold bndQ brcI
 rw [bndP, if_neg (by decide), if_neg (by decide), if_neg (by decide), if_pos rfl]
 cases numPR l with
 | none => rfl
 | some nr =>
  obtain ⟨n, t1⟩ := nr
  dsimp only
  rw [need_I, show (((44 : UInt8).toNat : Nat) : Int) = 44 from rfl]
  by_cases h1 : hdI t1 = 44
  ·rw [if_pos h1, if_pos h1]
   dsimp only
   by_cases h2 : hdI (t1.drop 1) = 125
   ·rw [if_pos ((head_I 125 _).2 (h2.trans rfl)), if_pos h2, List.drop_drop]
   ·rw [if_neg (fun h => h2 (((head_I 125 _).1 h).trans rfl)), if_neg h2]
    cases numPR (t1.drop 1) with
    | none => rfl
    | some mr =>
     obtain ⟨m, t3⟩ := mr
     dsimp only
     rw [need_I, show (((125 : UInt8).toNat : Nat) : Int) = 125 from rfl]
     by_cases h3 : hdI t3 = 125
     ·rw [if_pos h3, if_pos h3]
     ·rw [if_neg h3, if_neg h3]
  ·rw [if_neg h1, if_neg h1]
theorem Rrepeated_any (N : Nat → Prop) (s : ByteArray) (i : Nat) (p : RX) (c : PC) (w : World) (hs : s.size ≤ 100000000) (hi : i ≤ s.size) (hc : RdQ N w c p) :
  Calls Tryz.prog 169 #[aggP c, .string s, .int .i64 (i : Int)] w (BndO N s i p w) := by
 have hii : (i : Int) ≤ 100000000 := by omega
 have HS := Lib.hid hs
 have HI := Lib.hid hi
 have HC := Lib.hid hc
 obtain ⟨pa, pcap, hpa⟩ := hc.rd.forms
 clear hs hi hc
 obtain ⟨p0, p1, p2, p3, p4, p5⟩ := c
 simp only at hpa
 subst hpa
 generalize p.args.length = pn at *
 go_enter Tryz.func169, Tryz.ntmps169
 go_upto_region 2 with fail
 generalize hW1 : World.alloc w _ = w1
 obtain ⟨ha1, -, hz1, hb1⟩ := alloc_of hW1
 generalize hW2 : World.alloc w1 _ = w2
 obtain ⟨ha2, -, hz2, hb2⟩ := alloc_of hW2
 generalize hW3 : World.alloc w2 _ = w3
 obtain ⟨ha3, -, hz3, hb3⟩ := alloc_of hW3
 rw [hz1] at ha2
 rw [hz2, hz1] at ha3
 have hb13 : Below w1.heap.size w1 w3 := hb2.trans (hb3.mono hb2.size)
 have hbl := hb1.trans (hb13.mono hb1.size)
 have HR := Lib.hid (show RepS N p ⟨p0, p1, p2, p3, p4, .slice pa pn pcap⟩ w w3 from ⟨(hb13.block _ (by omega)).trans ha1, (hb3.block _ (by omega)).trans ha2, ha3, hbl, ((HC.out.mono (M := fun g => N g ∧ g < w.heap.size) (fun g h1 h2 => ⟨h1, h2⟩)).stay hbl)⟩)
 clear hW1 hW2 hW3 ha1 ha2 ha3 hz1 hz2 hz3 hb1 hb2 hb3 hb13 hbl HC
 have HA := Lib.hid (fun w' => at_any s i HS.out (by have := HS.out; have := HI.out; omega) w')
 obtain ⟨z0, z1, z2, z3, z4, z5⟩ := HR.out.ret.cells
 obtain ⟨y0, y1, y2, y3, y4, y5⟩ := HR.out.ret.free
 obtain ⟨x0, x1, x2, x3, x4, x5⟩ := HR.out.box.cells
 simp only at z0 z1 z2 z3 z4 z5 x0 x1 x2 x3 x4 x5
 go_wp2_with fail
 refine (HA.out w3).mono ?_
 rintro e wr ⟨rfl, rfl⟩
 have HBN := Lib.hid (bndQ_no (l := (L s).drop i))
 have HBB := Lib.hid (bndQ_br (s := s) (i := i))
 have HB1 := Lib.hid (show hdI ((L s).drop i) = 42 → bndQ ((L s).drop i) = .yes 0 (-1) ((L s).drop (i + 1)) from fun h => bndQ_one 42 0 (-1) (fun _ => rfl) (h.trans rfl))
 have HB2 := Lib.hid (show hdI ((L s).drop i) = 43 → bndQ ((L s).drop i) = .yes 1 (-1) ((L s).drop (i + 1)) from fun h => bndQ_one 43 1 (-1) (fun _ => rfl) (h.trans rfl))
 have HB3 := Lib.hid (show hdI ((L s).drop i) = 63 → bndQ ((L s).drop i) = .yes 0 1 ((L s).drop (i + 1)) from fun h => bndQ_one 63 0 1 (fun _ => rfl) (h.trans rfl))
 have HLT := Lib.hid (hdI_lt (s := s) (i := i))
 generalize hdI ((L s).drop i) = v at *
 by_cases e42 : v = 42
 ·subst e42
  have HQ := Lib.hid (HB1.out rfl)
  have hlt := HLT.out (by decide)
  clear HB1 HB2 HB3 HBN HBB HLT HA
  go_wp2_with fail
  generalize hW : World.setCell _ _ _ = w9
  obtain ⟨hbx, hq, hb⟩ := RepS.fin (d := ⟨5, 0, 0, 0, -1, .slice (some ⟨w.heap.size + 2, 0, none⟩) 1 1⟩) HR.out (HR.out.node (0) (-1)) hW
  obtain ⟨s0, s1, s2, s3, s4, s5⟩ := hbx.cells
  refine bodyPost_ret (v := .tuple #[aggP ⟨5, 0, 0, 0, -1, .slice (some ⟨w.heap.size + 2, 0, none⟩) 1 1⟩, .int .i64 ((i + 1 : Nat) : Int), .bool true]) (by simp only at s0 s1 s2 s3 s4 s5; simp [results, Tryz.results169, go_sem, s0, s1, s2, s3, s4, s5]) rfl ⟨_, _, i + 1, true, rfl, hq, hb, ?_⟩
  rw [HQ.out]
  exact ⟨rfl, rfl, by omega, rfl⟩
 have t42 : (v == 42) = false := beq_false_of_ne e42
 by_cases e43 : v = 43
 ·subst e43
  have HQ := Lib.hid (HB2.out rfl)
  have hlt := HLT.out (by decide)
  clear HB1 HB2 HB3 HBN HBB HLT HA
  go_wp2_with fail
  generalize hW : World.setCell _ _ _ = w9
  obtain ⟨hbx, hq, hb⟩ := RepS.fin (d := ⟨5, 0, 0, 1, -1, .slice (some ⟨w.heap.size + 2, 0, none⟩) 1 1⟩) HR.out (HR.out.node (1) (-1)) hW
  obtain ⟨s0, s1, s2, s3, s4, s5⟩ := hbx.cells
  refine bodyPost_ret (v := .tuple #[aggP ⟨5, 0, 0, 1, -1, .slice (some ⟨w.heap.size + 2, 0, none⟩) 1 1⟩, .int .i64 ((i + 1 : Nat) : Int), .bool true]) (by simp only at s0 s1 s2 s3 s4 s5; simp [results, Tryz.results169, go_sem, s0, s1, s2, s3, s4, s5]) rfl ⟨_, _, i + 1, true, rfl, hq, hb, ?_⟩
  rw [HQ.out]
  exact ⟨rfl, rfl, by omega, rfl⟩
 have t43 : (v == 43) = false := beq_false_of_ne e43
 by_cases e63 : v = 63
 ·subst e63
  have HQ := Lib.hid (HB3.out rfl)
  have hlt := HLT.out (by decide)
  clear HB1 HB2 HB3 HBN HBB HLT HA
  go_wp2_with fail
  generalize hW : World.setCell _ _ _ = w9
  obtain ⟨hbx, hq, hb⟩ := RepS.fin (d := ⟨5, 0, 0, 0, 1, .slice (some ⟨w.heap.size + 2, 0, none⟩) 1 1⟩) HR.out (HR.out.node (0) (1)) hW
  obtain ⟨s0, s1, s2, s3, s4, s5⟩ := hbx.cells
  refine bodyPost_ret (v := .tuple #[aggP ⟨5, 0, 0, 0, 1, .slice (some ⟨w.heap.size + 2, 0, none⟩) 1 1⟩, .int .i64 ((i + 1 : Nat) : Int), .bool true]) (by simp only at s0 s1 s2 s3 s4 s5; simp [results, Tryz.results169, go_sem, s0, s1, s2, s3, s4, s5]) rfl ⟨_, _, i + 1, true, rfl, hq, hb, ?_⟩
  rw [HQ.out]
  exact ⟨rfl, rfl, by omega, rfl⟩
 have t63 : (v == 63) = false := beq_false_of_ne e63
 by_cases e123 : v = 123
 ·subst e123
  have HQB := Lib.hid (HBB.out rfl)
  have hlt := HLT.out (by decide)
  have HD := Lib.hid (fun w' => digits_any s (i + 1) HS.out (by have := HS.out; omega) w')
  have ec : ((i + 1 : Nat) : Int) = (i : Int) + 1 := by omega
  rw [ec] at HD
  clear HB1 HB2 HB3 HBN HBB HLT HA ec
  go_wp2_with fail
  refine (HD.out w3).mono ?_
  rintro e wr ⟨he, rfl⟩
  cases hN : numPR ((L s).drop (i + 1)) with
  | none =>
   rw [hN] at he
   obtain rfl : e = .returned (.tuple #[.int .i64 (-1), .int .i64 ((i : Int) + 1)]) := he
   have HQ : Hid (bndQ ((L s).drop i) = .no) := by unfold Hid; rw [HQB.out]; unfold brcI; rw [hN]
   clear hN HQB
   go_wp2_with fail
   generalize hW : World.setCell _ _ _ = w9
   obtain ⟨hbx, hq, hb⟩ := RepS.fin (d := ⟨p0, p1, p2, p3, p4, .slice pa pn pcap⟩) HR.out (HR.out.rd.mono (fun g h _ => .inl h)) hW
   obtain ⟨s0, s1, s2, s3, s4, s5⟩ := hbx.cells
   refine bodyPost_ret (v := .tuple #[aggP ⟨p0, p1, p2, p3, p4, .slice pa pn pcap⟩, .int .i64 ((i : Nat) : Int), .bool false]) (by simp only at s0 s1 s2 s3 s4 s5; simp [results, Tryz.results169, go_sem, s0, s1, s2, s3, s4, s5]) rfl ⟨_, _, i, false, rfl, hq, hb, ?_⟩
   rw [HQ.out]
  | some nr =>
   rw [hN] at he
   obtain ⟨n, r⟩ := nr
   obtain ⟨k, g1, g2, g3, g4, rfl⟩ := he
   subst g3
   have HA1 := Lib.hid (fun w' => at_any s k HS.out (by have := HS.out; omega) w')
   have ec : ((k + 1 : Nat) : Int) = (k : Int) + 1 := by omega
   have HA2 := Lib.hid (fun w' => at_any s (k + 1) HS.out (by have := HS.out; omega) w')
   have HD2 := Lib.hid (fun w' => digits_any s (k + 1) HS.out (by have := HS.out; omega) w')
   rw [ec] at HA2 HD2
   have HQ0 : Hid (bndQ ((L s).drop i) = if hdI ((L s).drop k) = 44 then (if hdI ((L s).drop (k + 1)) = 125 then .yes n (-1) ((L s).drop (k + 2)) else match numPR ((L s).drop (k + 1)) with
         | none => .no
         | some (m, t3) => if hdI t3 = 125 then .yes n m (t3.drop 1) else .no) else .no) := by
    unfold Hid
    rw [HQB.out]
    unfold brcI
    rw [hN]
    dsimp only
    rw [List.drop_drop, List.drop_drop]
   have HL2 := Lib.hid (hdI_lt (s := s) (i := k + 1))
   have hn0 : (0 : Int) ≤ n := by omega
   have hki : (k : Int) ≤ 100000000 := by have := HS.out; omega
   clear hN HQB HD ec g1 g4
   generalize hdI ((L s).drop k) = c1 at *
   generalize hdI ((L s).drop (k + 1)) = c2 at *
   by_cases e1 : c1 = 44
   ·subst e1
    rw [if_pos rfl] at HQ0
    go_wp2_with fail
    refine (HA1.out w3).mono ?_
    rintro e wr ⟨rfl, rfl⟩
    go_wp2_with fail
    refine (HA2.out w3).mono ?_
    rintro e wr ⟨rfl, rfl⟩
    by_cases e2 : c2 = 125
    ·subst e2
     have HQ := Lib.hid (HQ0.out.trans (if_pos rfl))
     have HK := Lib.hid (HL2.out (by decide))
     clear HQ0 HL2 HD2
     go_wp2_with fail
     generalize hW : World.setCell _ _ _ = w9
     obtain ⟨hbx, hq, hb⟩ := RepS.fin (d := ⟨5, 0, 0, n, -1, .slice (some ⟨w.heap.size + 2, 0, none⟩) 1 1⟩) HR.out (HR.out.node (n) (-1)) hW
     obtain ⟨s0, s1, s2, s3, s4, s5⟩ := hbx.cells
     refine bodyPost_ret (v := .tuple #[aggP ⟨5, 0, 0, n, -1, .slice (some ⟨w.heap.size + 2, 0, none⟩) 1 1⟩, .int .i64 ((k + 2 : Nat) : Int), .bool true]) (by simp only at s0 s1 s2 s3 s4 s5; simp [results, Tryz.results169, go_sem, s0, s1, s2, s3, s4, s5]) rfl ⟨_, _, k + 2, true, rfl, hq, hb, ?_⟩
     rw [HQ.out]
     exact ⟨rfl, rfl, by have := HK.out; omega, rfl⟩
    ·have HQ1 := Lib.hid (HQ0.out.trans (if_neg e2))
     have t2 : (c2 == 125) = false := beq_false_of_ne e2
     clear HQ0 HL2 e2
     go_wp2_with fail
     refine (HD2.out w3).mono ?_
     rintro e wr ⟨he, rfl⟩
     cases hM : numPR ((L s).drop (k + 1)) with
     | none =>
      rw [hM] at he
      obtain rfl : e = .returned (.tuple #[.int .i64 (-1), .int .i64 ((k : Int) + 1)]) := he
      have HQ : Hid (bndQ ((L s).drop i) = .no) := by unfold Hid; rw [HQ1.out, hM]
      clear hM HQ1
      go_wp2_with fail
      generalize hW : World.setCell _ _ _ = w9
      obtain ⟨hbx, hq, hb⟩ := RepS.fin (d := ⟨5, 0, 0, n, -1, .slice (some ⟨w.heap.size + 2, 0, none⟩) 1 1⟩) HR.out (HR.out.node (n) (-1)) hW
      obtain ⟨s0, s1, s2, s3, s4, s5⟩ := hbx.cells
      refine bodyPost_ret (v := .tuple #[aggP ⟨5, 0, 0, n, -1, .slice (some ⟨w.heap.size + 2, 0, none⟩) 1 1⟩, .int .i64 ((k + 1 + 1 : Nat) : Int), .bool false]) (by simp only at s0 s1 s2 s3 s4 s5; simp [results, Tryz.results169, go_sem, s0, s1, s2, s3, s4, s5]) rfl ⟨_, _, k + 1 + 1, false, rfl, hq, hb, ?_⟩
      rw [HQ.out]
     | some mr =>
      rw [hM] at he
      obtain ⟨m, r⟩ := mr
      obtain ⟨k2, g1, g5, g3, g4, rfl⟩ := he
      subst g3
      have HA3 := Lib.hid (fun w' => at_any s k2 HS.out (by have := HS.out; omega) w')
      have HQ2 : Hid (bndQ ((L s).drop i) = if hdI ((L s).drop k2) = 125 then .yes n m ((L s).drop (k2 + 1)) else .no) := by
       unfold Hid
       rw [HQ1.out, hM]
       dsimp only
       rw [List.drop_drop]
      have HL3 := Lib.hid (hdI_lt (s := s) (i := k2))
      have hm0 : (0 : Int) ≤ m := by omega
      have hk2 : (k2 : Int) ≤ 100000000 := by have := HS.out; omega
      clear hM HQ1 HD2 g1 g4
      generalize hdI ((L s).drop k2) = c3 at *
      by_cases e3 : c3 = 125
      ·subst e3
       have HQ := Lib.hid (HQ2.out.trans (if_pos rfl))
       have HK := Lib.hid (HL3.out (by decide))
       clear HQ2 HL3
       go_wp2_with fail
       refine (HA3.out w3).mono ?_
       rintro e wr ⟨rfl, rfl⟩
       go_wp2_with fail
       generalize hW : World.setCell _ _ _ = w9
       obtain ⟨hbx, hq, hb⟩ := RepS.fin (d := ⟨5, 0, 0, n, m, .slice (some ⟨w.heap.size + 2, 0, none⟩) 1 1⟩) HR.out (HR.out.node (n) (m)) hW
       obtain ⟨s0, s1, s2, s3, s4, s5⟩ := hbx.cells
       refine bodyPost_ret (v := .tuple #[aggP ⟨5, 0, 0, n, m, .slice (some ⟨w.heap.size + 2, 0, none⟩) 1 1⟩, .int .i64 ((k2 + 1 : Nat) : Int), .bool true]) (by simp only at s0 s1 s2 s3 s4 s5; simp [results, Tryz.results169, go_sem, s0, s1, s2, s3, s4, s5]) rfl ⟨_, _, k2 + 1, true, rfl, hq, hb, ?_⟩
       rw [HQ.out]
       exact ⟨rfl, rfl, by have := HK.out; omega, rfl⟩
      ·have HQ := Lib.hid (HQ2.out.trans (if_neg e3))
       have t3 : (c3 == 125) = false := beq_false_of_ne e3
       clear HQ2 HL3 e3
       go_wp2_with fail
       refine (HA3.out w3).mono ?_
       rintro e wr ⟨rfl, rfl⟩
       go_wp2_with fail
       generalize hW : World.setCell _ _ _ = w9
       obtain ⟨hbx, hq, hb⟩ := RepS.fin (d := ⟨5, 0, 0, n, m, .slice (some ⟨w.heap.size + 2, 0, none⟩) 1 1⟩) HR.out (HR.out.node (n) (m)) hW
       obtain ⟨s0, s1, s2, s3, s4, s5⟩ := hbx.cells
       refine bodyPost_ret (v := .tuple #[aggP ⟨5, 0, 0, n, m, .slice (some ⟨w.heap.size + 2, 0, none⟩) 1 1⟩, .int .i64 ((k2 + 1 : Nat) : Int), .bool false]) (by simp only at s0 s1 s2 s3 s4 s5; simp [results, Tryz.results169, go_sem, s0, s1, s2, s3, s4, s5]) rfl ⟨_, _, k2 + 1, false, rfl, hq, hb, ?_⟩
       rw [HQ.out]
   ·have HQ := Lib.hid (HQ0.out.trans (if_neg e1))
    have t1 : (c1 != 44) = true := bne_iff_ne.2 e1
    clear HQ0 HL2 HD2 HA2 e1
    go_wp2_with fail
    refine (HA1.out w3).mono ?_
    rintro e wr ⟨rfl, rfl⟩
    go_wp2_with fail
    generalize hW : World.setCell _ _ _ = w9
    obtain ⟨hbx, hq, hb⟩ := RepS.fin (d := ⟨p0, p1, p2, p3, p4, .slice pa pn pcap⟩) HR.out (HR.out.rd.mono (fun g h _ => .inl h)) hW
    obtain ⟨s0, s1, s2, s3, s4, s5⟩ := hbx.cells
    refine bodyPost_ret (v := .tuple #[aggP ⟨p0, p1, p2, p3, p4, .slice pa pn pcap⟩, .int .i64 ((i : Nat) : Int), .bool false]) (by simp only at s0 s1 s2 s3 s4 s5; simp [results, Tryz.results169, go_sem, s0, s1, s2, s3, s4, s5]) rfl ⟨_, _, i, false, rfl, hq, hb, ?_⟩
    rw [HQ.out]
 have t123 : (v == 123) = false := beq_false_of_ne e123
 have HQ := Lib.hid (HBN.out e42 e43 e63 e123)
 clear e42 e43 e63 e123
 clear HB1 HB2 HB3 HBB HLT HA
 go_wp2_with fail
 generalize hW : World.setCell _ _ _ = w9
 obtain ⟨hbx, hq, hb⟩ := RepS.fin (d := ⟨p0, p1, p2, p3, p4, .slice pa pn pcap⟩) HR.out (HR.out.rd.mono (fun g h _ => .inl h)) hW
 obtain ⟨s0, s1, s2, s3, s4, s5⟩ := hbx.cells
 refine bodyPost_ret (v := .tuple #[aggP ⟨p0, p1, p2, p3, p4, .slice pa pn pcap⟩, .int .i64 (i : Int), .bool false]) (by simp only at s0 s1 s2 s3 s4 s5; simp [results, Tryz.results169, go_sem, s0, s1, s2, s3, s4, s5]) rfl ⟨_, _, i, false, rfl, hq, hb, ?_⟩
 rw [HQ.out]
end Go.Proofs.YtpkecepelcppiaaGreatDoor

namespace Go.Proofs.YtpkecepelcppiaaGreatDoor
open Go.RowKit
set_option maxRecDepth 100000
set_option maxHeartbeats 1000000

theorem oneQ_eats : Eats oneQ := by
 intro l p r h
 cases l with
 | nil => cases h
 | cons c t =>
  rw [List.length_cons]
  unfold oneQ at h
  dsimp only at h
  by_cases hc : c = 92
  ·rw [if_pos hc] at h
   by_cases h1 : t.head? = some 120
   ·rw [if_pos h1] at h
    cases h2 : t[1]?.bind hexQ with
    | none => rw [h2] at h; cases h
    | some a =>
     cases h3 : t[2]?.bind hexQ with
     | none => rw [h2, h3] at h; cases h
     | some b =>
      rw [h2, h3] at h
      cases h
      rw [List.length_drop]
      omega
   ·rw [if_neg h1] at h
    cases h
  ·rw [if_neg hc] at h
   by_cases h2 : byteT c.toNat = [c]
   ·rw [if_pos h2] at h
    cases h
    omega
   ·rw [if_neg h2] at h
    cases h
theorem bndQ_eats {l r : List UInt8} {mn mx : Int} (h : bndQ l = .yes mn mx r) : r.length < l.length := by
 unfold bndQ at h
 cases hb : bndP l with
 | no => rw [hb] at h; cases h
 | bad => rw [hb] at h; cases h
 | yes a b c =>
  rw [hb] at h
  cases h
  exact bnd_eats hb
theorem bndQ_bad {l : List UInt8} : bndQ l ≠ .bad := by
 intro h
 unfold bndQ at h
 cases hb : bndP l with
 | no => rw [hb] at h; cases h
 | bad => rw [hb] at h; cases h
 | yes a b c => rw [hb] at h; cases h
theorem postQ_eats : ∀ (f : Nat) (p : RX) (l : List UInt8) (q : RX) (r : List UInt8), postP pgQ f p l = some (q, r) → r.length ≤ l.length
 | 0, p, l, q, r, h => by cases h; exact Nat.le_refl _
 | f + 1, p, l, q, r, h => by
  rw [postP] at h
  split at h
  ·cases h
   exact Nat.le_refl _
  ·cases h
  ·rename_i mn mx r' e
   have h1 := bndQ_eats e
   have h2 := postQ_eats f _ _ _ _ h
   omega
theorem atomQ_eats (sub : Option (List UInt8 → Option (RX × List UInt8))) (h1 : ∀ f, sub = some f → Eats f) : Eats (atomP pgQ sub) := by
 intro l p r h
 cases l with
 | nil => cases h
 | cons c t =>
  rw [List.length_cons]
  unfold atomP at h
  dsimp only at h
  split at h
  ·split at h
   ·cases h
    rw [List.length_drop]
    omega
   ·split at h
    ·cases h
    ·rename_i f
     split at h
     ·cases h
     ·rename_i q r1 e1
      have h2 := h1 _ rfl _ _ _ e1
      rw [Option.map_eq_some_iff] at h
      obtain ⟨r2, e2, e3⟩ := h
      have h3 := need_eats e2
      cases e3
      omega
  split at h
  ·split at h
   ·cases h
    rw [List.length_drop]
    omega
   ·split at h
    ·cases h
    ·rename_i lo t1 e1
     have h2 := oneQ_eats _ _ _ e1
     split at h
     ·cases h
     ·rename_i t2 e2
      have h3 := need_eats e2
      split at h
      ·cases h
      ·rename_i hi t3 e3
       have h4 := oneQ_eats _ _ _ e3
       rw [Option.map_eq_some_iff] at h
       obtain ⟨r2, e4, e5⟩ := h
       have h5 := need_eats e4
       cases e5
       omega
  split at h
  ·cases h
   omega
  ·rw [Option.map_eq_some_iff] at h
   obtain ⟨⟨b, r2⟩, e4, e5⟩ := h
   have h5 := oneQ_eats (c :: t) _ _ e4
   rw [List.length_cons] at h5
   cases e5
   omega
theorem preQ_eats : ∀ n, Eats (preP pgQ n)
 | 0 => by
  intro l p r h
  rw [preP] at h
  split at h
  ·cases h
  ·rw [Option.bind_eq_some_iff] at h
   obtain ⟨⟨q, r1⟩, e1, e2⟩ := h
   have h1 := atomQ_eats none (fun f h => by cases h) _ _ _ e1
   have h2 := postQ_eats _ _ _ _ _ e2
   omega
 | n + 1 => by
  intro l p r h
  have ih := preQ_eats n
  rw [preP] at h
  split at h
  ·rw [Option.map_eq_some_iff] at h
   obtain ⟨⟨q, r1⟩, e1, e2⟩ := h
   have h1 := ih _ _ _ e1
   rw [List.length_drop] at h1
   cases e2
   omega
  ·rw [Option.bind_eq_some_iff] at h
   obtain ⟨⟨q, r1⟩, e1, e2⟩ := h
   have h1 := atomQ_eats (some (inf1 (preP pgQ n))) (fun f h => by cases h; exact inf_eats 4 _ (inf_eats 6 _ (inf_eats 3 _ ih))) _ _ _ e1
   have h2 := postQ_eats _ _ _ _ _ e2
   omega
def catG (op : Int) (sep : Option UInt8) (one : List UInt8 → Option (RX × List UInt8)) (acc : List RX) (l : List UInt8) : Option (RX × List UInt8) :=
 (one l).bind fun x => (restP sep one (x.2.length + 1) (acc ++ [x.1]) x.2).map fun y => (joinP op y.1, y.2)
def headG (op : Int) (sep : Option UInt8) (one : List UInt8 → Option (RX × List UInt8)) (acc : List RX) (r : List UInt8) : Option (RX × List UInt8) :=
 match moreP sep r with
 | none => some (joinP op acc, r)
 | some l => catG op sep one acc l
theorem inf_cat (op : Int) (sep : Option UInt8) (one : List UInt8 → Option (RX × List UInt8)) (l : List UInt8) : infP op sep one l = catG op sep one [] l := by
 unfold infP catG
 cases one l with
 | none => rfl
 | some x =>
  obtain ⟨p, r⟩ := x
  show (match restP sep one (r.length + 1) [p] r with | none => none | some (ps, r') => some (joinP op ps, r')) = Option.map (fun y => (joinP op y.1, y.2)) (restP sep one (r.length + 1) [p] r)
  cases restP sep one (r.length + 1) [p] r with
  | none => rfl
  | some y => rfl
theorem catG_none {op : Int} {sep : Option UInt8} {one : List UInt8 → Option (RX × List UInt8)} {acc : List RX} {l : List UInt8} (h : one l = none) : catG op sep one acc l = none := by
 unfold catG
 rw [h]
 rfl
theorem catG_some {op : Int} {sep : Option UInt8} {one : List UInt8 → Option (RX × List UInt8)} (he : Eats one) {acc : List RX} {l r : List UInt8} {p : RX} (h : one l = some (p, r)) : catG op sep one acc l = headG op sep one (acc ++ [p]) r := by
 unfold catG headG
 rw [h]
 show (restP sep one (r.length + 1) (acc ++ [p]) r).map _ = _
 rw [restP]
 cases hm : moreP sep r with
 | none => rfl
 | some l' =>
  dsimp only
  have h1 := more_le hm
  cases ho : one l' with
  | none => unfold catG; rw [ho]; rfl
  | some y =>
   obtain ⟨q, r2⟩ := y
   have h2 := he _ _ _ ho
   unfold catG
   rw [ho]
   dsimp only [Option.bind_some]
   rw [rest_fuel sep one he _ (r2.length + 1) _ _ (by omega) (by omega)]
theorem more_sepI (c : UInt8) (l : List UInt8) : moreP (some c) l = if hdI l = (c.toNat : Int) then some (l.drop 1) else none := by
 cases l with
 | nil => exact (if_neg (by show ¬ (-1 : Int) = _; omega)).symm
 | cons a t =>
  have h : hdI (a :: t) = (a.toNat : Int) := rfl
  rw [h]
  unfold moreP
  dsimp only
  by_cases hc : a = c
  ·rw [if_pos hc, if_pos (by rw [hc])]
   rfl
  ·rw [if_neg hc, if_neg (fun h => hc (UInt8.toNat_inj.1 (by omega)))]
theorem more_noneI (l : List UInt8) : moreP none l = if hdI l = -1 ∨ hdI l = 124 ∨ hdI l = 38 ∨ hdI l = 41 then none else some l := by
 cases l with
 | nil => exact (if_pos (.inl rfl)).symm
 | cons a t =>
  have h : hdI (a :: t) = (a.toNat : Int) := rfl
  rw [h]
  unfold moreP
  dsimp only
  by_cases hc : a = 124 ∨ a = 38 ∨ a = 41
  ·rw [if_pos hc, if_pos (by rcases hc with rfl | rfl | rfl; exact .inr (.inl rfl); exact .inr (.inr (.inl rfl)); exact .inr (.inr (.inr rfl)))]
  ·rw [if_neg hc, if_neg (fun h => hc (by
    rcases h with h | h | h | h
    ·omega
    ·exact .inl (UInt8.toNat_inj.1 (show a.toNat = 124 by omega))
    ·exact .inr (.inl (UInt8.toNat_inj.1 (show a.toNat = 38 by omega)))
    ·exact .inr (.inr (UInt8.toNat_inj.1 (show a.toNat = 41 by omega)))))]
theorem headG_sep {op : Int} {c : UInt8} {one : List UInt8 → Option (RX × List UInt8)} {acc : List RX} {r : List UInt8} : headG op (some c) one acc r = if hdI r = (c.toNat : Int) then catG op (some c) one acc (r.drop 1) else some (joinP op acc, r) := by
 unfold headG
 rw [more_sepI]
 by_cases h : hdI r = (c.toNat : Int)
 ·rw [if_pos h, if_pos h]
 ·rw [if_neg h, if_neg h]
theorem headG_cat {op : Int} {one : List UInt8 → Option (RX × List UInt8)} {acc : List RX} {r : List UInt8} : headG op none one acc r = if hdI r = -1 ∨ hdI r = 124 ∨ hdI r = 38 ∨ hdI r = 41 then some (joinP op acc, r) else catG op none one acc r := by
 unfold headG
 rw [more_noneI]
 by_cases h : hdI r = -1 ∨ hdI r = 124 ∨ hdI r = 38 ∨ hdI r = 41
 ·rw [if_pos h, if_pos h]
 ·rw [if_neg h, if_neg h]
def atmI (sub : List UInt8 → Option (RX × List UInt8)) (l : List UInt8) : Option (RX × List UInt8) :=
 if hdI l = 40 then
  (if hdI (l.drop 1) = 41 then some (.mk 1 0 0 0 0 [], l.drop 2)
   else (sub (l.drop 1)).bind fun x => if hdI x.2 = 41 then some (x.1, x.2.drop 1) else none)
 else if hdI l = 91 then
  (if hdI (l.drop 1) = 93 then some (.mk 0 0 0 0 0 [], l.drop 2)
   else (oneQ (l.drop 1)).bind fun x => if hdI x.2 = 45 then (oneQ (x.2.drop 1)).bind fun y => if hdI y.2 = 93 then some (rngR x.1 y.1, y.2.drop 1) else none else none)
 else if hdI l = 46 then some (rngR 0 255, l.drop 1)
 else (oneQ l).map fun x => (rngR x.1 x.1, x.2)
theorem atom_I (sub : Option (List UInt8 → Option (RX × List UInt8))) (l : List UInt8) : atomP pgQ sub l = atmI (fun t => match sub with | none => none | some f => f t) l := by
 cases l with
 | nil => rfl
 | cons c t =>
  have h : hdI (c :: t) = (c.toNat : Int) := rfl
  have kc : ∀ x : UInt8, ((c.toNat : Int) = (x.toNat : Int)) = (c = x) := fun x => propext ⟨fun h => UInt8.toNat_inj.1 (by omega), fun h => by rw [h]⟩
  have kt : ∀ x : UInt8, (hdI t = (x.toNat : Int)) = (t.head? = some x) := fun x => propext (head_I x t).symm
  unfold atomP atmI
  rw [h]
  rw [show (c :: t).drop 1 = t from rfl, show (c :: t).drop 2 = t.drop 1 from rfl]
  simp only [show ((c.toNat : Int) = 40) = (c = 40) from kc 40, show ((c.toNat : Int) = 91) = (c = 91) from kc 91, show ((c.toNat : Int) = 46) = (c = 46) from kc 46, show (hdI t = 41) = (t.head? = some 41) from kt 41, show (hdI t = 93) = (t.head? = some 93) from kt 93]
  by_cases h1 : c = 40
  ·rw [if_pos h1, if_pos h1]
   by_cases h2 : t.head? = some 41
   ·rw [if_pos h2, if_pos h2]
   ·rw [if_neg h2, if_neg h2]
    cases sub with
    | none => rfl
    | some f =>
     dsimp only
     cases f t with
     | none => rfl
     | some x =>
      obtain ⟨p, r⟩ := x
      dsimp only [Option.bind_some]
      rw [need_I, show (((41 : UInt8).toNat : Nat) : Int) = 41 from rfl]
      by_cases h3 : hdI r = 41
      ·rw [if_pos h3, if_pos h3]
       rfl
      ·rw [if_neg h3, if_neg h3]
       rfl
  rw [if_neg h1, if_neg h1]
  by_cases h2 : c = 91
  ·rw [if_pos h2, if_pos h2]
   by_cases h3 : t.head? = some 93
   ·rw [if_pos h3, if_pos h3]
   ·rw [if_neg h3, if_neg h3]
    show (match oneQ t with | none => none | some (lo, t1) => match needP 45 t1 with | none => none | some t2 => match oneQ t2 with | none => none | some (hi, t3) => (needP 93 t3).map fun r => (rngR lo hi, r)) = _
    cases oneQ t with
    | none => rfl
    | some x =>
     obtain ⟨lo, t1⟩ := x
     dsimp only [Option.bind_some]
     rw [need_I, show (((45 : UInt8).toNat : Nat) : Int) = 45 from rfl]
     by_cases h4 : hdI t1 = 45
     ·rw [if_pos h4, if_pos h4]
      dsimp only
      cases oneQ (t1.drop 1) with
      | none => rfl
      | some y =>
       obtain ⟨hi, t3⟩ := y
       dsimp only [Option.bind_some]
       rw [need_I, show (((93 : UInt8).toNat : Nat) : Int) = 93 from rfl]
       by_cases h5 : hdI t3 = 93
       ·rw [if_pos h5, if_pos h5]
        rfl
       ·rw [if_neg h5, if_neg h5]
        rfl
     ·rw [if_neg h4, if_neg h4]
  rw [if_neg h2, if_neg h2]
  by_cases h3 : c = 46
  ·rw [if_pos h3, if_pos h3]
  ·rw [if_neg h3, if_neg h3]
   rfl
def subQ (n : Nat) : List UInt8 → Option (RX × List UInt8) := match n with
 | 0 => fun _ => none
 | n + 1 => preP pgQ n
theorem pre_I (n : Nat) (l : List UInt8) : preP pgQ n l = if hdI l = 33 then (subQ n (l.drop 1)).map fun x => (sngR 7 x.1, x.2) else (atmI (inf1 (subQ n)) l).bind fun x => postP pgQ 49 x.1 x.2 := by
 cases n with
 | zero =>
  rw [preP]
  by_cases h : hdI l = 33
  ·rw [if_pos ((head_I 33 _).2 (h.trans rfl)), if_pos h]
   rfl
  ·rw [if_neg (fun h2 => h (((head_I 33 _).1 h2).trans rfl)), if_neg h, atom_I]
   rfl
 | succ n =>
  rw [preP]
  by_cases h : hdI l = 33
  ·rw [if_pos ((head_I 33 _).2 (h.trans rfl)), if_pos h]
   rfl
  ·rw [if_neg (fun h2 => h (((head_I 33 _).1 h2).trans rfl)), if_neg h, atom_I]
   rfl
theorem sub_eats (n : Nat) : Eats (subQ n) := by
 cases n with
 | zero => intro l p r h; cases h
 | succ n => exact preQ_eats n
end Go.Proofs.YtpkecepelcppiaaGreatDoor
