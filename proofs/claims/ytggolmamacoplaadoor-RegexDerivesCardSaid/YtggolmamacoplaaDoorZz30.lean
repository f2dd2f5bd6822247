/- The law RegexReverses walked; printed by gen_ryv.py. Conditions: the value of strconv.ErrSyntax. -/
import Derived.Test.YtggolmamacoplaaDoorZz28
import Derived.Test.YtggolmamacoplaaDoorZz29
import Derived.Test.YtggolmamacoplaaDoorZz2
import Derived.Test.YtggolmamacoplaaDoorZz25
import Derived.Test.YtggolmamacoplaaDoorZz19
import Derived.Test.YtggolmamacoplaaDoorZz1
import Derived.Test.YtggolmamacoplaaDoorZz26
import Derived.Test.YtggolmamacoplaaDoorZz15
namespace Go.Proofs.YtggolmamacoplaaDoor
open Go.RowKit Go.Shelf
set_option maxHeartbeats 4000000
set_option maxRecDepth 100000

/-! Small patterns. -/
def smlR : Nat → RX → Bool
  | 0, _ => false
  | d + 1, .mk op lo hi mn mx l => (decide (l.length ≤ 12 ∧ ¬ (op = 5 ∧ (8 < mn ∨ 8 < mx))) && l.all (smlR d)) && decide (cntR 48 (.mk op lo hi mn mx l) ≤ 40)
theorem sml_pow : ∀ (d e : Nat) (p : RX), smlR d p = true → cntN e p ≤ 13 ^ d
  | 0, _, p, h => by cases h
  | d + 1, 0, p, _ => by rw [cntN]; exact Nat.zero_le _
  | d + 1, e + 1, .mk op lo hi mn mx l, h => by
    unfold smlR at h
    rw [Bool.and_eq_true, Bool.and_eq_true, decide_eq_true_eq, List.all_eq_true] at h
    obtain ⟨⟨⟨h1, -⟩, h2⟩, -⟩ := h
    rw [cntN]
    have key : ∀ l : List RX, (∀ q ∈ l, smlR d q = true) → (l.map (cntN e)).sum ≤ l.length * 13 ^ d := by
      intro l
      induction l with
      | nil => intro _; simp
      | cons a t ih =>
        intro hl
        have a1 := sml_pow d e a (hl a (by simp))
        have a2 := ih (fun q hq => hl q (by simp [hq]))
        simp only [List.map_cons, List.sum_cons, List.length_cons]
        rw [Nat.add_mul]
        omega
    have h3 := key l h2
    have h4 : l.length * 13 ^ d ≤ 12 * 13 ^ d := Nat.mul_le_mul_right _ h1
    have h5 : 1 ≤ 13 ^ d := Nat.one_le_pow _ _ (by decide)
    rw [Nat.pow_succ]
    omega
theorem sml_snd : ∀ (d e : Nat) (p : RX), smlR d p = true → sndR e p = true → sndR d p = true
  | 0, _, p, h, _ => by cases h
  | d + 1, 0, p, _, h => by cases h
  | d + 1, e + 1, .mk op lo hi mn mx l, h, hs => by
    unfold smlR at h
    rw [Bool.and_eq_true, Bool.and_eq_true, decide_eq_true_eq, List.all_eq_true] at h
    obtain ⟨⟨-, h2⟩, -⟩ := h
    obtain ⟨f1, f2⟩ := snd_node hs
    unfold sndR
    rw [Bool.and_eq_true, List.all_eq_true]
    exact ⟨f1, fun q hq => sml_snd d e q (h2 q hq) (f2 q hq)⟩
/-- A small pattern has few nodes, counted as they are. -/
theorem sml_cnt {p : RX} (h : smlR 8 p = true) : cntN 48 p ≤ 40 ∧ cntR 48 p = (cntN 48 p : Int) := by
  have h1 := sml_pow 8 48 p h
  have h2 := cnt_nat 48 p (Nat.le_trans h1 (by decide))
  refine ⟨?_, h2⟩
  obtain ⟨op, lo, hi, mn, mx, l⟩ := p
  unfold smlR at h
  rw [Bool.and_eq_true, decide_eq_true_eq] at h
  have h3 := h.2
  rw [h2] at h3
  omega
/-- What small asks of the node itself. -/
def topS (op mn mx : Int) (n : Nat) : Bool := decide (n ≤ 12 ∧ ¬ (op = 5 ∧ (8 < mn ∨ 8 < mx)))
theorem all_dropS (f : RX → Bool) (l : List RX) (k : Nat) (h : k < l.length) : (l.drop k).all f = (f l[k] && (l.drop (k + 1)).all f) := by
  rw [List.drop_eq_getElem_cons h, List.all_cons]
theorem small_any : ∀ (d : Nat) (p : RX) (c : PC) (w : World), d ≤ 48 → RdP w c p →
    Calls Tryd.prog 14 #[aggP c, .int .i64 (d : Int)] w (Ret (.bool (smlR d p)) w) := by
  intro d
  induction d with
  | zero =>
    intro p c w _ _
    obtain ⟨op, lo, hi, mn, mx, a⟩ := c
    go_enter Tryd.func14, Tryd.ntmps14
    go_wp2_with fail
    go_ret
    exact ⟨rfl, (Below.refl _ _).alloc (Nat.le_refl _) _⟩
  | succ d ih =>
    intro p c w hd hv
    have IH := Lib.hid ih
    clear ih
    have HV := Lib.hid hv
    cases hv with
    | mk op lo hi mn mx l lv cs hl hL =>
    obtain ⟨a, cap, rfl, h1, h2, h3, h4⟩ := hl
    have HSZ := Lib.hid (fun w' (hb : Below w.heap.size w w') => RSize_any (.mk op lo hi mn mx l) ⟨op, lo, hi, mn, mx, .slice a l.length cap⟩ w' (HV.out.stays hb))
    have HL := Lib.hid h4
    have HLi := Lib.hid hL
    have hm : (l.length : Int) ≤ 9223372036854775807 := by simp only [maxLen] at h2; omega
    have hdi : ¬ ((d + 1 : Nat) : Int) < 1 := by omega
    clear h4 hL h1 h2 h3 HV
    have HR : Hid (smlR (d + 1) (.mk op lo hi mn mx l) = ((topS op mn mx l.length && l.all (smlR d)) && decide (cntR 48 (.mk op lo hi mn mx l) ≤ 40))) := rfl
    generalize smlR (d + 1) (.mk op lo hi mn mx l) = r at *
    have HTD : Hid (topS op mn mx l.length = decide (l.length ≤ 12 ∧ ¬ (op = 5 ∧ (8 < mn ∨ 8 < mx)))) := rfl
    generalize topS op mn mx l.length = fo at *
    generalize cntR 48 (.mk op lo hi mn mx l) = cnt at *
    simp only [aggP]
    go_enter Tryd.func14, Tryd.ntmps14
    go_upto_region 1 with fail
    generalize hW : World.alloc w _ = w1
    obtain ⟨ha1, -, hz1, hb1⟩ := alloc_of hW
    have HB1 := Lib.hid hb1
    have HX1 := Lib.hid ha1
    have HZ1 : Hid (w.heap.size < w1.heap.size) := by unfold Hid; omega
    obtain ⟨c0, c1, c2, c3, c4, c5⟩ := row6 ha1
    clear hW hb1 ha1 hz1
    go_cut [28] (fun v wx => v = .bool (!fo) ∧ w1 = wx)
    case first =>
      by_cases k1 : 12 < l.length
      · have HF : Hid (fo = false) := by unfold Hid; rw [HTD.out, decide_eq_false (by omega)]
        have e1 : ((12 : Int) < l.length) = True := eq_true (by omega)
        clear k1
        go_wp2_with fail
        go_meet
        exact ⟨by rw [HF.out]; rfl, rfl⟩
      · have e1 : ((12 : Int) < l.length) = False := eq_false (by omega)
        by_cases k2 : op = 5
        · have f2 : (op == 5) = true := by rw [k2]; rfl
          by_cases k3 : 8 < mn
          · have HF : Hid (fo = false) := by unfold Hid; rw [HTD.out, decide_eq_false (by omega)]
            clear k1 k2
            go_wp2_with fail
            go_meet
            exact ⟨by rw [HF.out]; rfl, rfl⟩
          · by_cases k4 : 8 < mx
            · have HF : Hid (fo = false) := by unfold Hid; rw [HTD.out, decide_eq_false (by omega)]
              clear k1 k2
              go_wp2_with fail
              go_meet
              exact ⟨by rw [HF.out]; rfl, rfl⟩
            · have HF : Hid (fo = true) := by unfold Hid; rw [HTD.out, decide_eq_true (by omega)]
              clear k1 k2
              go_wp2_with fail
              go_meet
              exact ⟨by rw [HF.out]; rfl, rfl⟩
        · have f2 : (op == 5) = false := beq_false_of_ne k2
          have HF : Hid (fo = true) := by unfold Hid; rw [HTD.out, decide_eq_true (by omega)]
          clear k1 k2
          go_wp2_with fail
          go_meet
          exact ⟨by rw [HF.out]; rfl, rfl⟩
    case rest =>
    obtain ⟨rfl, rfl⟩ := hcut
    cases fo with
    | false =>
      have HF : Hid (r = false) := HR.out
      go_wp2_with fail
      go_ret
      exact ⟨by (rw [HF.out]; try rfl), HB1.out⟩
    | true =>
    have HR1 : Hid (r = (l.all (smlR d) && decide (cnt ≤ 40))) := HR.out
    clear HR HTD
    go_wp2_with fail
    go_loopw [4, 5] (fun _ iv wr => ∃ (k : Nat), k ≤ l.length ∧ iv = .int .i64 k ∧ Hid (r = ((l.drop k).all (smlR d) && decide (cnt ≤ 40))) ∧ Below w1.heap.size w1 wr) (fun _ iv _ => l.length - (intOf iv).toNat)
    case atStart => exact ⟨0, Nat.zero_le _, rfl, HR1.out, Below.refl _ _⟩
    case round =>
      obtain ⟨k, hk, rfl, HC, hbw⟩ := hrel
      have HBW := Lib.hid hbw
      clear HR1 c0 c1 c2 c3 c4 c5
      obtain ⟨b0, b1, b2, b3, b4, b5⟩ := row6 ((hbw.block _ HZ1.out).trans HX1.out)
      by_cases hlt : k < l.length
      case neg =>
        have HF : Hid (r = decide (cnt ≤ 40)) := by
          unfold Hid
          rw [HC.out, List.drop_of_length_le (by omega)]
          rfl
        have hge : ¬ (k : Int) < l.length := by omega
        have HSS := Lib.hid (HSZ.out wr (HB1.out.trans (HBW.out.mono HB1.out.size)))
        clear HC hlt hbw
        go_wp2_with fail
        refine HSS.out.mono ?_
        rintro e w3 ⟨rfl, hb3⟩
        have HB3 := Lib.hid (HB1.out.trans ((HBW.out.trans (hb3.mono HBW.out.size)).mono HB1.out.size))
        clear hb3 HSS b0 b1 b2 b3 b4 b5
        go_wp2_with fail
        go_ret
        exact ⟨by (rw [HF.out]; rfl), HB3.out⟩
      case pos =>
        clear b0 b1 b2 b3 b4
        have hlti : (k : Int) < l.length := by omega
        obtain ⟨g, o, rfl, hg, hat⟩ := HL.out (by omega)
        have HBR := Lib.hid (HB1.out.trans (hbw.mono (Nat.le_trans HB1.out.size (Nat.le_refl _))))
        have HRD := Lib.hid ((HLi.out k hlt).stays HBR.out)
        have HS : Hid (r = (smlR d l[k] && ((l.drop (k + 1)).all (smlR d) && decide (cnt ≤ 40)))) := by
          unfold Hid
          rw [HC.out, all_dropS _ l k hlt, Bool.and_assoc]
        have hc6 : ∀ j, j < 6 → wr.cell? ⟨g, o + k * 6 + j, none⟩ = (cs k).cells[j]? := fun j hj => (HBR.out.cell (p := ⟨g, o + k * 6 + j, none⟩) hg).trans (hat k hlt j hj)
        clear hat HC hbw
        generalize l[k] = q at *
        generalize cs k = c at *
        obtain ⟨pa, pcap, hpa⟩ := HRD.out.forms
        generalize q.args.length = pn at *
        obtain ⟨p0, p1, p2, p3, p4, p5⟩ := c
        simp only at hpa
        subst hpa
        obtain ⟨c0, c1, c2, c3, c4, c5⟩ := cells6 hc6
        simp only at c0 c1 c2 c3 c4 c5
        clear hc6
        have HB2 := Lib.hid (Below.refl wr.heap.size wr)
        obtain ⟨wa, rfl⟩ : ∃ x : World, x = wr := ⟨_, rfl⟩
        have HIH := Lib.hid (IH.out q ⟨p0, p1, p2, p3, p4, .slice pa pn pcap⟩ wa (by omega) (HRD.out.stays HB2.out))
        generalize smlR d q = bq at *
        go_wp2_with fail
        refine HIH.out.mono ?_
        rintro e w3 ⟨rfl, hb3⟩
        have HB3 := Lib.hid (HBW.out.trans ((HB2.out.trans (hb3.mono HB2.out.size)).mono HBW.out.size))
        clear hb3 c0 c1 c2 c3 c4 c5 HIH
        cases bq with
        | false =>
          have HF : Hid (r = false) := HS.out
          go_wp2_with fail
          go_ret
          exact ⟨by (rw [HF.out]; try rfl), HB1.out.trans (HB3.out.mono HB1.out.size)⟩
        | true =>
        have HS2 : Hid (r = ((l.drop (k + 1)).all (smlR d) && decide (cnt ≤ 40))) := HS.out
        clear HS
        go_wp2_with fail
        exact ⟨⟨k + 1, by omega, rfl, HS2.out, HB3.out⟩, by simp [intOf]; omega⟩

/-! Strings backwards. -/
/-! Reverse. -/
end Go.Proofs.YtggolmamacoplaaDoor

namespace Go.Proofs.YtggolmamacoplaaDoor
open Go.RowKit Go.Shelf
set_option maxHeartbeats 4000000
set_option maxRecDepth 100000

theorem parse_yes (s : ByteArray) (p : RX) (w : World) (hs : s.size ≤ 100000000) (he : Env w) (h : parseR (L s) = some p) :
    Calls Tryd.prog 22 #[.string s] w fun e w' => ∃ (c0 c1 c2 c3 c4 : Int) (a : Option Addr) (cap : Nat), e = .returned (.tuple #[.agg #[.int .i64 c0, .int .i64 c1, .int .i64 c2, .int .i64 c3, .int .i64 c4, .slice a p.args.length cap], .int .i64 0]) ∧ RdP w' ⟨c0, c1, c2, c3, c4, .slice a p.args.length cap⟩ p ∧ Below w.heap.size w w' := by
  refine (Parse_any s w hs he).mono ?_
  rintro e w' ⟨hb, hm⟩
  rw [h] at hm
  obtain ⟨c, rfl, hq⟩ := hm
  obtain ⟨a, cap, ha⟩ := hq.rd.forms
  obtain ⟨c0, c1, c2, c3, c4, c5⟩ := c
  simp only at ha
  subst ha
  exact ⟨c0, c1, c2, c3, c4, a, cap, rfl, hq.rd, hb⟩
theorem parse_no (s : ByteArray) (w : World) (hs : s.size ≤ 100000000) (he : Env w) (h : (parseR (L s)).isNone = true) :
    Calls Tryd.prog 22 #[.string s] w fun e w' => e = .returned (.tuple #[.agg #[.int .i64 0, .int .i64 0, .int .i64 0, .int .i64 0, .int .i64 0, .slice none 0 0], .int .i64 3]) ∧ Below w.heap.size w w' := by
  refine (Parse_any s w hs he).mono ?_
  rintro e w' ⟨hb, hm⟩
  rw [Option.isNone_iff_eq_none.1 h] at hm
  exact ⟨hm, hb⟩
theorem derive_awQ (c : PC) (w : World) (hp : RdP w c awQ) :
    Calls Tryd.prog 18 #[aggP c, .int .i64 97] w fun e w' => ∃ (c0 c1 c2 c3 c4 : Int) (a : Option Addr) (cap : Nat), e = .returned (.agg #[.int .i64 c0, .int .i64 c1, .int .i64 c2, .int .i64 c3, .int .i64 c4, .slice a (dervR awQ 97).args.length cap]) ∧ RdP w' ⟨c0, c1, c2, c3, c4, .slice a (dervR awQ 97).args.length cap⟩ (dervR awQ 97) ∧ Below w.heap.size w w' := by
  refine (Derive_any awQ 97 c w hp (fun _ => by decide +kernel) (fun _ => by decide +kernel)).mono ?_
  rintro e w' ⟨c, rfl, hq, hb⟩
  obtain ⟨a, cap, ha⟩ := hq.forms
  obtain ⟨c0, c1, c2, c3, c4, c5⟩ := c
  simp only at ha
  subst ha
  exact ⟨c0, c1, c2, c3, c4, a, cap, rfl, hq, hb⟩
/-- What stands while awake looks. -/
structure AwS (b1 b9 : Nat) (c1 c9 : PC) (p q : RX) (w0 w : World) : Prop where
  x1 : BoxP b1 c1 w
  x9 : BoxP b9 c9 w
  r1 : RdP w c1 p
  r9 : RdP w c9 q
  bel : Below w0.heap.size w0 w
theorem AwS.stay {b1 b9 : Nat} {c1 c9 : PC} {p q : RX} {w0 w w' : World} (h : AwS b1 b9 c1 c9 p q w0 w) (hb : Below w.heap.size w w') : AwS b1 b9 c1 c9 p q w0 w' := ⟨h.x1.below hb, h.x9.below hb, h.r1.stays hb, h.r9.stays hb, h.bel.trans (hb.mono h.bel.size)⟩
theorem awake15_any (w : World) (hE : Env w) :
    Calls Tryd.prog 13 #[] w fun e w' => e = .returned (.bool true) ∧ Below w.heap.size w w' := by
  have H1 := Lib.hid (fun w' h => parse_yes ⟨#[97, 40, 98, 124, 99, 41, 42]⟩ awP w' (by decide) h aw_parse)
  have H2 := Lib.hid (fun w' h => parse_yes ⟨#[97, 98, 124, 97, 99]⟩ awQ w' (by decide) h aw_parseQ)
  have H3 := Lib.hid (fun w' h => parse_no ⟨#[97, 123, 48, 44, 125]⟩ w' (by decide) h aw_no1)
  have H4 := Lib.hid (fun w' h => parse_no ⟨#[40, 97, 41]⟩ w' (by decide) h aw_no2)
  have HD := Lib.hid derive_awQ
  have HT := Lib.hid (fun c w' (h : RdP w' c awP) => show Calls Tryd.prog 11 #[aggP c] w' fun e w'' => e = .returned (.string ⟨#[97, 40, 98, 124, 99, 41, 42]⟩) ∧ Below w'.heap.size w' w'' from by
    have := Text_any awP c w' h (fun _ => by decide +kernel)
    rw [aw_text] at this
    exact this)
  have HM := Lib.hid (fun (p : RX) (s : ByteArray) (b : Bool) (hs : s.size ≤ 1000000) (hm : matR p (L s) = b) c w' (h : RdP w' c p) => show Calls Tryd.prog 15 #[aggP c, .string s] w' fun e w'' => e = .returned (.bool b) ∧ Below w'.heap.size w' w'' from by
    have := Match_any s hs p c w' h
    rw [hm] at this
    exact this)
  have M1 := Lib.hid (HM.out awP ⟨#[97, 98, 99, 98]⟩ true (by decide) aw_mat.1)
  have M2 := Lib.hid (HM.out awP ⟨#[97, 98, 100]⟩ false (by decide) aw_mat.2)
  have M3 := Lib.hid (HM.out (dervR awQ 97) ⟨#[98]⟩ true (by decide) aw_der.1)
  have M4 := Lib.hid (HM.out (dervR awQ 97) ⟨#[99]⟩ true (by decide) aw_der.2.1)
  have M5 := Lib.hid (HM.out (dervR awQ 97) ⟨#[]⟩ false (by decide) aw_der.2.2.1)
  have M6 := Lib.hid (HM.out (dervR awQ 97) ⟨#[98, 99]⟩ false (by decide) aw_der.2.2.2)
  clear HM
  generalize dervR awQ 97 = rD at *
  generalize awP = rP at *
  generalize awQ = rQ at *
  have HE := Lib.hid hE
  clear hE
  go_enter Tryd.func13, Tryd.ntmps13
  go_wp2_with fail
  refine (H1.out w HE.out).mono ?_
  rintro e w1 ⟨p0, p1, p2, p3, p4, pa, pcap, rfl, hp1, hb1⟩
  generalize rP.args.length = pn at *
  go_upto_region 2 with fail
  generalize hW : World.alloc w1 _ = w2
  obtain ⟨ha, -, hz2, hb2⟩ := alloc_of hW
  have hx1 : BoxP w1.heap.size ⟨p0, p1, p2, p3, p4, .slice pa pn pcap⟩ w2 := ha
  have hB := hb1.trans (hb2.mono hb1.size)
  replace hp1 := hp1.stays hb2
  clear hW ha hz2 hb2
  go_wp2_with fail
  refine (H2.out w2 (HE.out.below hB)).mono ?_
  rintro e w3 ⟨q0, q1, q2, q3, q4, qa, qcap, rfl, hq1, hb3⟩
  generalize rQ.args.length = qn at *
  go_upto_region 3 with fail
  generalize hW : World.alloc w3 _ = w4
  obtain ⟨ha, -, hz4, hb4⟩ := alloc_of hW
  have hx3 : BoxP w3.heap.size ⟨q0, q1, q2, q3, q4, .slice qa qn qcap⟩ w4 := ha
  replace hb3 := hb3.trans (hb4.mono hb3.size)
  replace hB := hB.trans (hb3.mono hB.size)
  replace hp1 := hp1.stays hb3
  replace hx1 := hx1.below hb3
  replace hq1 := hq1.stays hb4
  clear hW ha hz4 hb4 hb3
  go_wp2_with fail
  refine (H3.out w4 (HE.out.below hB)).mono ?_
  rintro e w5 ⟨rfl, hb5⟩
  go_upto_region 4 with fail
  generalize hW : World.alloc w5 _ = w6
  obtain ⟨-, -, -, hb6⟩ := alloc_of hW
  replace hb5 := hb5.trans (hb6.mono hb5.size)
  replace hB := hB.trans (hb5.mono hB.size)
  replace hp1 := hp1.stays hb5
  replace hx1 := hx1.below hb5
  replace hq1 := hq1.stays hb5
  replace hx3 := hx3.below hb5
  clear hW hb5 hb6
  go_wp2_with fail
  refine (H4.out w6 (HE.out.below hB)).mono ?_
  rintro e w7 ⟨rfl, hb7⟩
  go_upto_region 5 with fail
  generalize hW : World.alloc w7 _ = w8
  obtain ⟨-, -, -, hb8⟩ := alloc_of hW
  replace hb7 := hb7.trans (hb8.mono hb7.size)
  replace hB := hB.trans (hb7.mono hB.size)
  replace hp1 := hp1.stays hb7
  replace hx1 := hx1.below hb7
  replace hq1 := hq1.stays hb7
  replace hx3 := hx3.below hb7
  clear hW hb7 hb8
  have HS := Lib.hid (show AwS w1.heap.size w3.heap.size _ _ _ _ w w8 from ⟨hx1, hx3, hp1, hq1, hB⟩)
  clear hx1 hx3 hp1 hq1 hB hb1 H1 H2 H3 H4
  obtain ⟨t0, t1, t2, t3, t4, t5⟩ := HS.out.x9.cells
  simp only at t0 t1 t2 t3 t4 t5
  go_wp2_with fail
  refine (HD.out _ w8 HS.out.r9).mono ?_
  rintro e w9 ⟨d0, d1, d2, d3, d4, da, dcap, rfl, hd1, hb9⟩
  generalize rD.args.length = dn at *
  clear t0 t1 t2 t3 t4 t5 HD
  go_upto_region 6 with fail
  generalize hW : World.alloc w9 _ = w10
  obtain ⟨ha, -, -, hb10⟩ := alloc_of hW
  have HS1 := Lib.hid (show AwS w1.heap.size w9.heap.size ⟨p0, p1, p2, p3, p4, .slice pa pn pcap⟩ ⟨d0, d1, d2, d3, d4, .slice da dn dcap⟩ rP rD w w10 from ⟨(HS.out.stay (hb9.trans (hb10.mono hb9.size))).x1, ha, (HS.out.stay (hb9.trans (hb10.mono hb9.size))).r1, hd1.stays hb10, (HS.out.stay (hb9.trans (hb10.mono hb9.size))).bel⟩)
  clear hW ha hb9 hb10 hd1 HS
  obtain ⟨t0, t1, t2, t3, t4, t5⟩ := HS1.out.x1.cells
  simp only at t0 t1 t2 t3 t4 t5
  go_wp2_with fail
  refine (M1.out _ _ HS1.out.r1).mono ?_
  rintro e u1 ⟨rfl, hb⟩
  have HS2 := Lib.hid (HS1.out.stay hb)
  clear hb t0 t1 t2 t3 t4 t5 HS1
  obtain ⟨t0, t1, t2, t3, t4, t5⟩ := HS2.out.x1.cells
  simp only at t0 t1 t2 t3 t4 t5
  go_wp2_with fail
  refine (M2.out _ _ HS2.out.r1).mono ?_
  rintro e u2 ⟨rfl, hb⟩
  have HS3 := Lib.hid (HS2.out.stay hb)
  clear hb t0 t1 t2 t3 t4 t5 HS2
  obtain ⟨t0, t1, t2, t3, t4, t5⟩ := HS3.out.x1.cells
  simp only at t0 t1 t2 t3 t4 t5
  go_wp2_with fail
  refine (HT.out _ _ HS3.out.r1).mono ?_
  rintro e u3 ⟨rfl, hb⟩
  have HS4 := Lib.hid (HS3.out.stay hb)
  clear hb t0 t1 t2 t3 t4 t5 HS3
  obtain ⟨t0, t1, t2, t3, t4, t5⟩ := HS4.out.x9.cells
  simp only at t0 t1 t2 t3 t4 t5
  go_wp2_with fail
  refine (M3.out _ _ HS4.out.r9).mono ?_
  rintro e u4 ⟨rfl, hb⟩
  have HS5 := Lib.hid (HS4.out.stay hb)
  clear hb t0 t1 t2 t3 t4 t5 HS4
  obtain ⟨t0, t1, t2, t3, t4, t5⟩ := HS5.out.x9.cells
  simp only at t0 t1 t2 t3 t4 t5
  go_wp2_with fail
  refine (M4.out _ _ HS5.out.r9).mono ?_
  rintro e u5 ⟨rfl, hb⟩
  have HS6 := Lib.hid (HS5.out.stay hb)
  clear hb t0 t1 t2 t3 t4 t5 HS5
  obtain ⟨t0, t1, t2, t3, t4, t5⟩ := HS6.out.x9.cells
  simp only at t0 t1 t2 t3 t4 t5
  go_wp2_with fail
  refine (M5.out _ _ HS6.out.r9).mono ?_
  rintro e u6 ⟨rfl, hb⟩
  have HS7 := Lib.hid (HS6.out.stay hb)
  clear hb t0 t1 t2 t3 t4 t5 HS6
  obtain ⟨t0, t1, t2, t3, t4, t5⟩ := HS7.out.x9.cells
  simp only at t0 t1 t2 t3 t4 t5
  go_wp2_with fail
  refine (M6.out _ _ HS7.out.r9).mono ?_
  rintro e u7 ⟨rfl, hb⟩
  have HS8 := Lib.hid (HS7.out.stay hb)
  clear hb t0 t1 t2 t3 t4 t5 HS7
  go_wp2_with fail
  go_ret
  exact ⟨rfl, HS8.out.bel⟩
end Go.Proofs.YtggolmamacoplaaDoor

namespace Go.Proofs.YtggolmamacoplaaDoor
open Go.RowKit Go.Shelf
set_option maxHeartbeats 4000000
set_option maxRecDepth 100000

/-- What stands while the law looks. -/
def LwS (b : Nat) (c : PC) (p : RX) (w0 w : World) : Prop := BoxP b c w ∧ Hid (RdP w c p ∧ Env w ∧ Below w0.heap.size w0 w)
theorem LwS.stay {b : Nat} {c : PC} {p : RX} {w0 w w' : World} (h : LwS b c p w0 w) (hb : Below w.heap.size w w') : LwS b c p w0 w' := ⟨h.1.below hb, h.2.out.1.stays hb, h.2.out.2.1.below hb, h.2.out.2.2.trans (hb.mono h.2.out.2.2.size)⟩
end Go.Proofs.YtggolmamacoplaaDoor

namespace Go.Proofs.YtggolmamacoplaaDoor
open Go.RowKit Go.Shelf
set_option maxHeartbeats 4000000
set_option maxRecDepth 100000

/-- What stands behind the boxes of two arguments. -/
structure SmS (c1 c2 : PC) (w wr : World) : Prop where
  b1 : BoxP w.heap.size c1 wr
  b2 : BoxP (w.heap.size + 1) c2 wr
  bel : Below w.heap.size w wr
theorem SmS.stay {c1 c2 : PC} {w wr wx : World} (h : SmS c1 c2 w wr) (hb : Below wr.heap.size wr wx) : SmS c1 c2 w wx := ⟨h.b1.below hb, h.b2.below hb, h.bel.trans (hb.mono h.bel.size)⟩
theorem SmS.start {c1 c2 : PC} {w w1 w2 : World} {X Y : Obj} (hW : w.alloc X = w1) (hW2 : w1.alloc Y = w2) (hX : X = .cells c1.cells.toArray 24 (0, 0)) (hY : Y = .cells c2.cells.toArray 24 (0, 0)) : SmS c1 c2 w w2 := by
  obtain ⟨ha, -, hz1, hb1⟩ := alloc_of hW
  obtain ⟨ha2, -, hz2, hb2⟩ := alloc_of hW2
  rw [hz1] at ha2
  exact ⟨(hb2.block _ (by omega)).trans (ha.trans (by rw [hX])), ha2.trans (by rw [hY]), hb1.trans (hb2.mono hb1.size)⟩
theorem same_any : ∀ (d : Nat) (p : RX) (c1 c2 : PC) (w : World), d ≤ 48 → sndR d p = true → RdP w c1 p → RdP w c2 p →
    Calls Tryd.prog 40 #[aggP c1, aggP c2, .int .i64 (d : Int)] w (Ret (.bool true) w) := by
  intro d
  induction d with
  | zero => intro p c1 c2 w _ h; cases h
  | succ d ih =>
    intro p c1 c2 w hd hs hr1 hr2
    have IH := Lib.hid ih
    clear ih
    have H1 := Lib.hid hr1
    have H2 := Lib.hid hr2
    obtain ⟨op, lo, hi, mn, mx, l⟩ := p
    have HKS := Lib.hid (snd_node hs).2
    obtain ⟨a1, cap1, e1⟩ := hr1.forms
    obtain ⟨a2, cap2, e2⟩ := hr2.forms
    have h1 : c1.op = op ∧ c1.lo = lo ∧ c1.hi = hi ∧ c1.mn = mn ∧ c1.mx = mx := by cases hr1; exact ⟨rfl, rfl, rfl, rfl, rfl⟩
    have h2 : c2.op = op ∧ c2.lo = lo ∧ c2.hi = hi ∧ c2.mn = mn ∧ c2.mx = mx := by cases hr2; exact ⟨rfl, rfl, rfl, rfl, rfl⟩
    obtain ⟨p0, p1, p2, p3, p4, p5⟩ := c1
    obtain ⟨q0, q1, q2, q3, q4, q5⟩ := c2
    simp only at h1 h2 e1 e2
    obtain ⟨rfl, rfl, rfl, rfl, rfl⟩ := h1
    obtain ⟨rfl, rfl, rfl, rfl, rfl⟩ := h2
    rw [show (RX.mk q0 q1 q2 q3 q4 l).args = l from rfl] at e1 e2
    subst e1 e2
    have hm : (l.length : Int) ≤ 9223372036854775807 := by
      cases hr1 with
      | mk _ _ _ _ _ _ _ cs hl hL =>
      obtain ⟨a', cap', he, h1, h2, h0, h3⟩ := hl
      cases he
      simp only [maxLen] at h2
      omega
    have hdi : ¬ ((d + 1 : Nat) : Int) < 1 := by omega
    simp only [aggP]
    clear hr1 hr2 hs
    go_enter Tryd.func40, Tryd.ntmps40
    go_upto_region 1 with fail
    generalize hW : World.alloc w _ = w1
    generalize hW2 : World.alloc w1 _ = w2
    have HS := Lib.hid (SmS.start (c1 := ⟨q0, q1, q2, q3, q4, .slice a1 l.length cap1⟩) (c2 := ⟨q0, q1, q2, q3, q4, .slice a2 l.length cap2⟩) hW hW2 rfl rfl)
    clear hW hW2
    obtain ⟨t0, t1, t2, t3, t4, t5⟩ := HS.out.b1.cells
    obtain ⟨u0, u1, u2, u3, u4, u5⟩ := HS.out.b2.cells
    simp only at t0 t1 t2 t3 t4 t5 u0 u1 u2 u3 u4 u5
    go_wp2_with fail
    go_loopw [6, 7] (fun _ iv wr => ∃ (k : Nat), k ≤ l.length ∧ iv = .int .i64 k ∧ Hid (SmS ⟨q0, q1, q2, q3, q4, .slice a1 l.length cap1⟩ ⟨q0, q1, q2, q3, q4, .slice a2 l.length cap2⟩ w wr)) (fun _ iv _ => l.length - (intOf iv).toNat)
    case atStart => exact ⟨0, Nat.zero_le _, rfl, HS.out⟩
    case round =>
      clear HS t0 t1 t2 t3 t4 t5 u0 u1 u2 u3 u4 u5
      obtain ⟨k, hk, rfl, HS⟩ := hrel
      obtain ⟨t0, t1, t2, t3, t4, t5⟩ := HS.out.b1.cells
      obtain ⟨u0, u1, u2, u3, u4, u5⟩ := HS.out.b2.cells
      simp only at t0 t1 t2 t3 t4 t5 u0 u1 u2 u3 u4 u5
      by_cases hlt : k < l.length
      case neg =>
        have hge : ¬ (k : Int) < l.length := by omega
        clear hlt
        go_wp2_with fail
        go_ret
        exact ⟨rfl, HS.out.bel⟩
      case pos =>
        have hlti : (k : Int) < l.length := by omega
        obtain ⟨g, o, c, rfl, hc6, hrq⟩ := RdP.part H1.out HS.out.bel k hlt
        obtain ⟨g2, o2, c', rfl, hc6', hrq'⟩ := RdP.part H2.out HS.out.bel k hlt
        have HR1 := Lib.hid (hrq.stays (below_drewN (Below.refl _ _) 1))
        have HR2 := Lib.hid (hrq'.stays (below_drewN (Below.refl _ _) 1))
        have HSQ := Lib.hid (HKS.out _ (List.getElem_mem hlt))
        generalize l[k] = q at *
        obtain ⟨pa, pcap, hpa⟩ := hrq.forms
        obtain ⟨qa, qcap, hqa⟩ := hrq'.forms
        generalize q.args.length = pn at *
        obtain ⟨p0, p1, p2, p3, p4, p5⟩ := c
        obtain ⟨r0, r1, r2, r3, r4, r5⟩ := c'
        simp only at hpa hqa
        subst hpa hqa
        obtain ⟨b0, b1, b2, b3, b4, b5⟩ := cells6 hc6
        obtain ⟨v0, v1, v2, v3, v4, v5⟩ := cells6 hc6'
        simp only at b0 b1 b2 b3 b4 b5 v0 v1 v2 v3 v4 v5
        have HC1 : Hid (∀ j, j < 6 → wr.drew.cell? ⟨g, o + k * 6 + j, none⟩ = (PC.cells ⟨p0, p1, p2, p3, p4, .slice pa pn pcap⟩)[j]?) := hc6
        have HC2 : Hid (∀ j, j < 6 → wr.drew.cell? ⟨g2, o2 + k * 6 + j, none⟩ = (PC.cells ⟨r0, r1, r2, r3, r4, .slice qa pn qcap⟩)[j]?) := hc6'
        have HG : Hid (g < w.heap.size ∧ g2 < w.heap.size) := by
          have f : ∀ {c : PC} {gg oo nn cc : Nat}, RdP w ⟨q0, q1, q2, q3, q4, .slice (some ⟨gg, oo, none⟩) nn cc⟩ (.mk q0 q1 q2 q3 q4 l) → gg < w.heap.size := by
            intro c gg oo nn cc h
            cases h with
            | mk _ _ _ _ _ _ _ cs hl hL =>
            obtain ⟨_, _, he, _, _, _, h3⟩ := hl
            cases he
            obtain ⟨_, _, e, h, _⟩ := h3 (by omega)
            cases e
            exact h
          exact ⟨f (c := ⟨0, 0, 0, 0, 0, .nilIface⟩) H1.out, f (c := ⟨0, 0, 0, 0, 0, .nilIface⟩) H2.out⟩
        clear hc6 hc6' hrq hrq'
        have HIH := Lib.hid (IH.out q ⟨p0, p1, p2, p3, p4, .slice pa pn pcap⟩ ⟨r0, r1, r2, r3, r4, .slice qa pn qcap⟩ (wr.drewN 1) (by omega) HSQ.out HR1.out HR2.out)
        have hwr : IntKind.i64.wrap (((d + 1 : Nat) : Int) - 1) = (d : Int) := (IntWalk.i64_in _ (by omega)).trans (by omega)
        have hwr2 : IntKind.i64.wrap ((d : Int) + 1 - 1) = (d : Int) := (IntWalk.i64_in _ (by omega)).trans (by omega)
        have hwr3 : IntKind.i64.wrap (d : Int) = (d : Int) := IntWalk.i64_in _ (by omega)
        have HSD := Lib.hid (HS.out.stay (below_drewN (Below.refl _ _) 1))
        go_upto_region 6 with fail
        have hS0 : SmS ⟨q0, q1, q2, q3, q4, .slice (some ⟨g, o, none⟩) l.length cap1⟩ ⟨q0, q1, q2, q3, q4, .slice (some ⟨g2, o2, none⟩) l.length cap2⟩ w wr.drew := HSD.out
        refine wpq_region (fun w' => SmS ⟨q0, q1, q2, q3, q4, .slice (some ⟨g, o, none⟩) l.length cap1⟩ ⟨q0, q1, q2, q3, q4, .slice (some ⟨g2, o2, none⟩) l.length cap2⟩ w w' ∧ Hid (∀ j, j < 6 → w'.cell? ⟨g, o + k * 6 + j, none⟩ = (PC.cells ⟨p0, p1, p2, p3, p4, .slice pa pn pcap⟩)[j]?) ∧ Hid (∀ j, j < 6 → w'.cell? ⟨g2, o2 + k * 6 + j, none⟩ = (PC.cells ⟨r0, r1, r2, r3, r4, .slice qa pn qcap⟩)[j]?)) 13 (by kernel_rfl) ⟨hS0, HC1, HC2⟩ (fun hHeld => ?_)
        have HD : wr.drewN 1 = wr.drew := rfl
        rw [HD] at HIH HR1 HR2
        clear hS0 HC1 HC2 HSD HD HS b0 b1 b2 b3 b4 b5 v0 v1 v2 v3 v4 v5 t0 t1 t2 t3 t4 t5 u0 u1 u2 u3 u4 u5
        generalize wr.drew = wd at *
        refine wpq_take 0 (some 61) [1, 3, 4, 12, 13] rfl rfl (by kernel_rfl) (by kernel_rfl) (by kernel_rfl) (by kernel_rfl) (fun _ _ _ h => h) (Or.inl ⟨by rfl, fun w hSw => by (obtain ⟨x0, x1, x2, x3, x4, x5⟩ := BoxP.cells hSw.1.b1; obtain ⟨y0, y1, y2, y3, y4, y5⟩ := BoxP.cells hSw.1.b2; obtain ⟨z0, z1, z2, z3, z4, z5⟩ := cells6 hSw.2.1.out; obtain ⟨s0, s1, s2, s3, s4, s5⟩ := cells6 hSw.2.2.out; simp only at x0 x1 x2 x3 x4 x5 y0 y1 y2 y3 y4 y5 z0 z1 z2 z3 z4 z5 s0 s1 s2 s3 s4 s5; go_simp; with_reducible rfl)⟩) hHeld ?_
        simp only [Act.put, List.setIfInBounds_toArray, List.set_cons_zero, List.set_cons_succ]
        refine wpq_take 1 (some 62) [3, 4, 12, 13] rfl rfl (by kernel_rfl) (by kernel_rfl) (by kernel_rfl) (by kernel_rfl) (fun _ _ _ h => h) (Or.inl ⟨by rfl, fun w hSw => by (obtain ⟨x0, x1, x2, x3, x4, x5⟩ := BoxP.cells hSw.1.b1; obtain ⟨y0, y1, y2, y3, y4, y5⟩ := BoxP.cells hSw.1.b2; obtain ⟨z0, z1, z2, z3, z4, z5⟩ := cells6 hSw.2.1.out; obtain ⟨s0, s1, s2, s3, s4, s5⟩ := cells6 hSw.2.2.out; simp only at x0 x1 x2 x3 x4 x5 y0 y1 y2 y3 y4 y5 z0 z1 z2 z3 z4 z5 s0 s1 s2 s3 s4 s5; go_simp; with_reducible rfl)⟩) hHeld ?_
        simp only [Act.put, List.setIfInBounds_toArray, List.set_cons_zero, List.set_cons_succ]
        refine wpq_take 2 (some 63) [3, 4, 12, 13] rfl rfl (by kernel_rfl) (by kernel_rfl) (by kernel_rfl) (by kernel_rfl) (fun _ _ _ h => h) (Or.inl ⟨by rfl, fun w hSw => by (obtain ⟨x0, x1, x2, x3, x4, x5⟩ := BoxP.cells hSw.1.b1; obtain ⟨y0, y1, y2, y3, y4, y5⟩ := BoxP.cells hSw.1.b2; obtain ⟨z0, z1, z2, z3, z4, z5⟩ := cells6 hSw.2.1.out; obtain ⟨s0, s1, s2, s3, s4, s5⟩ := cells6 hSw.2.2.out; simp only at x0 x1 x2 x3 x4 x5 y0 y1 y2 y3 y4 y5 z0 z1 z2 z3 z4 z5 s0 s1 s2 s3 s4 s5; go_simp; with_reducible rfl)⟩) hHeld ?_
        simp only [Act.put, List.setIfInBounds_toArray, List.set_cons_zero, List.set_cons_succ]
        refine wpq_take 3 (some 64) [4, 12, 13] rfl rfl (by kernel_rfl) (by kernel_rfl) (by kernel_rfl) (by kernel_rfl) (fun _ _ _ h => h) (Or.inl ⟨by rfl, fun w hSw => by (obtain ⟨x0, x1, x2, x3, x4, x5⟩ := BoxP.cells hSw.1.b1; obtain ⟨y0, y1, y2, y3, y4, y5⟩ := BoxP.cells hSw.1.b2; obtain ⟨z0, z1, z2, z3, z4, z5⟩ := cells6 hSw.2.1.out; obtain ⟨s0, s1, s2, s3, s4, s5⟩ := cells6 hSw.2.2.out; simp only at x0 x1 x2 x3 x4 x5 y0 y1 y2 y3 y4 y5 z0 z1 z2 z3 z4 z5 s0 s1 s2 s3 s4 s5; go_simp; with_reducible rfl)⟩) hHeld ?_
        simp only [Act.put, List.setIfInBounds_toArray, List.set_cons_zero, List.set_cons_succ]
        refine wpq_take 4 (some 65) [12, 13] rfl rfl (by kernel_rfl) (by kernel_rfl) (by kernel_rfl) (by kernel_rfl) (fun _ _ _ h => h) (Or.inl ⟨by rfl, fun w hSw => by (obtain ⟨x0, x1, x2, x3, x4, x5⟩ := BoxP.cells hSw.1.b1; obtain ⟨y0, y1, y2, y3, y4, y5⟩ := BoxP.cells hSw.1.b2; obtain ⟨z0, z1, z2, z3, z4, z5⟩ := cells6 hSw.2.1.out; obtain ⟨s0, s1, s2, s3, s4, s5⟩ := cells6 hSw.2.2.out; simp only at x0 x1 x2 x3 x4 x5 y0 y1 y2 y3 y4 y5 z0 z1 z2 z3 z4 z5 s0 s1 s2 s3 s4 s5; go_simp; with_reducible rfl)⟩) hHeld ?_
        simp only [Act.put, List.setIfInBounds_toArray, List.set_cons_zero, List.set_cons_succ]
        refine wpq_take 5 (some 66) [6, 8, 9, 12, 13] rfl rfl (by kernel_rfl) (by kernel_rfl) (by kernel_rfl) (by kernel_rfl) (fun _ _ _ h => h) (Or.inl ⟨by rfl, fun w hSw => by (obtain ⟨x0, x1, x2, x3, x4, x5⟩ := BoxP.cells hSw.1.b1; obtain ⟨y0, y1, y2, y3, y4, y5⟩ := BoxP.cells hSw.1.b2; obtain ⟨z0, z1, z2, z3, z4, z5⟩ := cells6 hSw.2.1.out; obtain ⟨s0, s1, s2, s3, s4, s5⟩ := cells6 hSw.2.2.out; simp only at x0 x1 x2 x3 x4 x5 y0 y1 y2 y3 y4 y5 z0 z1 z2 z3 z4 z5 s0 s1 s2 s3 s4 s5; go_simp; with_reducible rfl)⟩) hHeld ?_
        simp only [Act.put, List.setIfInBounds_toArray, List.set_cons_zero, List.set_cons_succ]
        refine wpq_take 6 (some 67) [8, 9, 12, 13] rfl rfl (by kernel_rfl) (by kernel_rfl) (by kernel_rfl) (by kernel_rfl) (fun _ _ _ h => h) (Or.inl ⟨by rfl, fun w hSw => by (obtain ⟨x0, x1, x2, x3, x4, x5⟩ := BoxP.cells hSw.1.b1; obtain ⟨y0, y1, y2, y3, y4, y5⟩ := BoxP.cells hSw.1.b2; obtain ⟨z0, z1, z2, z3, z4, z5⟩ := cells6 hSw.2.1.out; obtain ⟨s0, s1, s2, s3, s4, s5⟩ := cells6 hSw.2.2.out; simp only at x0 x1 x2 x3 x4 x5 y0 y1 y2 y3 y4 y5 z0 z1 z2 z3 z4 z5 s0 s1 s2 s3 s4 s5; go_simp; with_reducible rfl)⟩) hHeld ?_
        simp only [Act.put, List.setIfInBounds_toArray, List.set_cons_zero, List.set_cons_succ]
        refine wpq_take 7 (some 68) [8, 9, 12, 13] rfl rfl (by kernel_rfl) (by kernel_rfl) (by kernel_rfl) (by kernel_rfl) (fun _ _ _ h => h) (Or.inl ⟨by rfl, fun w hSw => by (obtain ⟨x0, x1, x2, x3, x4, x5⟩ := BoxP.cells hSw.1.b1; obtain ⟨y0, y1, y2, y3, y4, y5⟩ := BoxP.cells hSw.1.b2; obtain ⟨z0, z1, z2, z3, z4, z5⟩ := cells6 hSw.2.1.out; obtain ⟨s0, s1, s2, s3, s4, s5⟩ := cells6 hSw.2.2.out; simp only at x0 x1 x2 x3 x4 x5 y0 y1 y2 y3 y4 y5 z0 z1 z2 z3 z4 z5 s0 s1 s2 s3 s4 s5; go_simp; with_reducible rfl)⟩) hHeld ?_
        simp only [Act.put, List.setIfInBounds_toArray, List.set_cons_zero, List.set_cons_succ]
        refine wpq_take 8 (some 69) [9, 12, 13] rfl rfl (by kernel_rfl) (by kernel_rfl) (by kernel_rfl) (by kernel_rfl) (fun _ _ _ h => h) (Or.inl ⟨by rfl, fun w hSw => by (obtain ⟨x0, x1, x2, x3, x4, x5⟩ := BoxP.cells hSw.1.b1; obtain ⟨y0, y1, y2, y3, y4, y5⟩ := BoxP.cells hSw.1.b2; obtain ⟨z0, z1, z2, z3, z4, z5⟩ := cells6 hSw.2.1.out; obtain ⟨s0, s1, s2, s3, s4, s5⟩ := cells6 hSw.2.2.out; simp only at x0 x1 x2 x3 x4 x5 y0 y1 y2 y3 y4 y5 z0 z1 z2 z3 z4 z5 s0 s1 s2 s3 s4 s5; go_simp; with_reducible rfl)⟩) hHeld ?_
        simp only [Act.put, List.setIfInBounds_toArray, List.set_cons_zero, List.set_cons_succ]
        refine wpq_take 9 (some 70) [12, 13] rfl rfl (by kernel_rfl) (by kernel_rfl) (by kernel_rfl) (by kernel_rfl) (fun _ _ _ h => h) (Or.inl ⟨by rfl, fun w hSw => by (obtain ⟨x0, x1, x2, x3, x4, x5⟩ := BoxP.cells hSw.1.b1; obtain ⟨y0, y1, y2, y3, y4, y5⟩ := BoxP.cells hSw.1.b2; obtain ⟨z0, z1, z2, z3, z4, z5⟩ := cells6 hSw.2.1.out; obtain ⟨s0, s1, s2, s3, s4, s5⟩ := cells6 hSw.2.2.out; simp only at x0 x1 x2 x3 x4 x5 y0 y1 y2 y3 y4 y5 z0 z1 z2 z3 z4 z5 s0 s1 s2 s3 s4 s5; go_simp; with_reducible rfl)⟩) hHeld ?_
        simp only [Act.put, List.setIfInBounds_toArray, List.set_cons_zero, List.set_cons_succ]
        refine wpq_take 10 (some 71) [11, 12, 13] rfl rfl (by kernel_rfl) (by kernel_rfl) (by kernel_rfl) (by kernel_rfl) (fun _ _ _ h => h) (Or.inl ⟨by rfl, fun w hSw => by (obtain ⟨x0, x1, x2, x3, x4, x5⟩ := BoxP.cells hSw.1.b1; obtain ⟨y0, y1, y2, y3, y4, y5⟩ := BoxP.cells hSw.1.b2; obtain ⟨z0, z1, z2, z3, z4, z5⟩ := cells6 hSw.2.1.out; obtain ⟨s0, s1, s2, s3, s4, s5⟩ := cells6 hSw.2.2.out; simp only at x0 x1 x2 x3 x4 x5 y0 y1 y2 y3 y4 y5 z0 z1 z2 z3 z4 z5 s0 s1 s2 s3 s4 s5; go_simp; with_reducible rfl)⟩) hHeld ?_
        simp only [Act.put, List.setIfInBounds_toArray, List.set_cons_zero, List.set_cons_succ]
        refine wpq_take 11 (some 72) [12, 13] rfl rfl (by kernel_rfl) (by kernel_rfl) (by kernel_rfl) (by kernel_rfl) (fun _ _ _ h => h) (Or.inl ⟨by rfl, fun w hSw => by (obtain ⟨x0, x1, x2, x3, x4, x5⟩ := BoxP.cells hSw.1.b1; obtain ⟨y0, y1, y2, y3, y4, y5⟩ := BoxP.cells hSw.1.b2; obtain ⟨z0, z1, z2, z3, z4, z5⟩ := cells6 hSw.2.1.out; obtain ⟨s0, s1, s2, s3, s4, s5⟩ := cells6 hSw.2.2.out; simp only at x0 x1 x2 x3 x4 x5 y0 y1 y2 y3 y4 y5 z0 z1 z2 z3 z4 z5 s0 s1 s2 s3 s4 s5; go_simp; with_reducible rfl)⟩) hHeld ?_
        simp only [Act.put, List.setIfInBounds_toArray, List.set_cons_zero, List.set_cons_succ]
        refine wpq_one 12 (by kernel_rfl) rfl (fun K hK => ?_)
        go_simp
        refine HIH.out.mono ?_
        rintro e w6 ⟨rfl, hb6⟩
        have HS6 := Lib.hid (hHeld.1.stay hb6)
        have hbw := hHeld.1.bel
        have HC1 : Hid (∀ j, j < 6 → w6.cell? ⟨g, o + k * 6 + j, none⟩ = (PC.cells ⟨p0, p1, p2, p3, p4, .slice pa pn pcap⟩)[j]?) := fun j hj => (hb6.cell (p := ⟨g, o + k * 6 + j, none⟩) (by have := HG.out.1; have := hbw.size; show g < wd.heap.size; omega)).trans (hHeld.2.1.out j hj)
        have HC2 : Hid (∀ j, j < 6 → w6.cell? ⟨g2, o2 + k * 6 + j, none⟩ = (PC.cells ⟨r0, r1, r2, r3, r4, .slice qa pn qcap⟩)[j]?) := fun j hj => (hb6.cell (p := ⟨g2, o2 + k * 6 + j, none⟩) (by have := HG.out.2; have := hbw.size; show g2 < wd.heap.size; omega)).trans (hHeld.2.2.out j hj)
        clear hHeld hb6 hbw HIH
        refine hK.out _ _ ⟨HS6.out, HC1, HC2⟩ (fun hHeld => ?_)
        clear hK K hHeld
        refine wpq_end 13 (by kernel_rfl) rfl (by kernel_rfl) (fun K hK => ?_)
        go_simp
        refine hK.out _ _ ?_
        clear hK K
        refine wpq_done (by kernel_rfl) ?_ _
        go_simp
        go_wp2_with fail
        exact ⟨⟨k + 1, by omega, by go_num, HS6.out⟩, by simp [intOf]; omega⟩
theorem Same_any (p : RX) (c1 c2 : PC) (w : World) (hs : sndR 48 p = true) (hr1 : RdP w c1 p) (hr2 : RdP w c2 p) :
    Calls Tryd.prog 20 #[aggP c1, aggP c2] w (Ret (.bool true) w) := by
  have HS := Lib.hid hs
  obtain ⟨a1, cap1, e1⟩ := hr1.forms
  obtain ⟨a2, cap2, e2⟩ := hr2.forms
  have HC := Lib.hid (fun w' (hb : Below w.heap.size w w') => same_any 48 p c1 c2 w' (Nat.le_refl _) hs (hr1.stays hb) (hr2.stays hb))
  generalize p.args.length = n at *
  obtain ⟨p0, p1, p2, p3, p4, p5⟩ := c1
  obtain ⟨q0, q1, q2, q3, q4, q5⟩ := c2
  simp only at e1 e2
  subst e1 e2
  simp only [aggP] at *
  clear hr1 hr2 hs HS
  go_enter Tryd.func20, Tryd.ntmps20
  go_upto_region 1 with fail
  generalize hW : World.alloc w _ = w1
  generalize hW2 : World.alloc w1 _ = w2
  have HS := Lib.hid (SmS.start (c1 := ⟨p0, p1, p2, p3, p4, .slice a1 n cap1⟩) (c2 := ⟨q0, q1, q2, q3, q4, .slice a2 n cap2⟩) hW hW2 rfl rfl)
  clear hW hW2
  obtain ⟨t0, t1, t2, t3, t4, t5⟩ := HS.out.b1.cells
  obtain ⟨u0, u1, u2, u3, u4, u5⟩ := HS.out.b2.cells
  simp only at t0 t1 t2 t3 t4 t5 u0 u1 u2 u3 u4 u5
  go_wp2_with fail
  refine (HC.out _ HS.out.bel).mono ?_
  rintro e w3 ⟨rfl, hb⟩
  have HS3 := Lib.hid (HS.out.stay hb)
  clear hb
  go_wp2_with fail
  go_ret
  exact ⟨rfl, HS3.out.bel⟩
end Go.Proofs.YtggolmamacoplaaDoor

namespace Go.Proofs.YtggolmamacoplaaDoor
open Go.RowKit Go.Shelf
set_option maxHeartbeats 4000000
set_option maxRecDepth 100000

/-- What stands while the law looks at two patterns. -/
def RsS (b b5 : Nat) (c cq : PC) (p q : RX) (w0 w : World) : Prop := BoxP b c w ∧ BoxP b5 cq w ∧ Hid (RdP w c p ∧ RdP w cq q ∧ Env w ∧ Below w0.heap.size w0 w)
theorem RsS.stay {b b5 : Nat} {c cq : PC} {p q : RX} {w0 w w' : World} (h : RsS b b5 c cq p q w0 w) (hb : Below w.heap.size w w') : RsS b b5 c cq p q w0 w' :=
  ⟨h.1.below hb, h.2.1.below hb, h.2.2.out.1.stays hb, h.2.2.out.2.1.stays hb, h.2.2.out.2.2.1.below hb, h.2.2.out.2.2.2.trans (hb.mono h.2.2.out.2.2.2.size)⟩
end Go.Proofs.YtggolmamacoplaaDoor
