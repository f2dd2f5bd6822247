/- slices.Clone and value.copied, walked. Conditions: lists of at most 10^6 values in all. -/
import Derived.Test.YtlnpfpjncnkekaaGreatDoorZt17
import Derived.StillTailTactics
import Derived.Deep.DeepCutAuto
import Derived.Deep.CutBlock
import Derived.Deep.QuietTactic
import Derived.BigQuiet
import Derived.Test.YtlnpfpjncnkekaaGreatDoorZt7
import Derived.WalkSpells
namespace Go.Proofs.YtlnpfpjncnkekaaGreatDoor
open Go.RowKit
set_option maxHeartbeats 1000000
set_option maxRecDepth 100000

/-- A value as an aggregate. -/
abbrev aggV (c : VC) : Value := .agg #[.int .i64 c.h.kind, .bool c.h.bool, .bool c.h.neg, .string c.h.ds, .int .i64 c.h.exp, .int .i64 c.h.tk, .int .i64 c.h.day, .int .i64 c.h.nano, .int .i64 c.h.off, .string c.h.text, c.b, c.l, c.f]
/-- The bytes of a slice as a string. -/
theorem conv_rdb {w : World} {v : Value} {l : List UInt8} (h : RdB w v l) : (convert 26 9 v).run Tryz.prog w = .ok (.string ⟨l.toArray⟩) w := by
  obtain ⟨a, cap, rfl, h1, h2, h3, h4⟩ := h
  rcases l with _ | ⟨b, t⟩
  · rcases a with _ | a
    · exact run_convert_bytes_nil w 26 5 Tryz.underlying26 Tryz.underlying5 0 cap 9 Tryz.underlying9
    · exact run_convert_bytes_back w 26 9 5 a cap [] Tryz.underlying26 Tryz.underlying5 Tryz.underlying9 (fun j hj => absurd hj (Nat.not_lt_zero _))
  · obtain ⟨g, o, rfl, hg, hc⟩ := h4 (by simp)
    refine run_convert_bytes_back w 26 9 5 ⟨g, o, none⟩ cap (b :: t) Tryz.underlying26 Tryz.underlying5 Tryz.underlying9 (fun j hj => ?_)
    have := hc j hj 0 (by decide)
    simp only [Nat.mul_one, Nat.add_zero, List.getElem?_cons_zero] at this
    have hadd : (⟨g, o, none⟩ : Addr).add j = ⟨g, o + j, none⟩ := by unfold Addr.add; split <;> simp_all
    rw [hadd, this, List.getD_eq_getElem?_getD, List.getElem?_eq_getElem hj]
    rfl

/-- The cells of an element that is a value. -/
theorem cells13 {w : World} {g o : Nat} {c : VC} (h : ∀ j, j < 13 → w.cell? ⟨g, o + j, none⟩ = c.cells[j]?) :
    w.cell? ⟨g, o, none⟩ = some (.int .i64 c.h.kind) ∧ w.cell? ⟨g, o + 1, none⟩ = some (.bool c.h.bool) ∧ w.cell? ⟨g, o + 2, none⟩ = some (.bool c.h.neg) ∧ w.cell? ⟨g, o + 3, none⟩ = some (.string c.h.ds) ∧ w.cell? ⟨g, o + 4, none⟩ = some (.int .i64 c.h.exp) ∧
      w.cell? ⟨g, o + 5, none⟩ = some (.int .i64 c.h.tk) ∧ w.cell? ⟨g, o + 6, none⟩ = some (.int .i64 c.h.day) ∧ w.cell? ⟨g, o + 7, none⟩ = some (.int .i64 c.h.nano) ∧ w.cell? ⟨g, o + 8, none⟩ = some (.int .i64 c.h.off) ∧ w.cell? ⟨g, o + 9, none⟩ = some (.string c.h.text) ∧
      w.cell? ⟨g, o + 10, none⟩ = some c.b ∧ w.cell? ⟨g, o + 11, none⟩ = some c.l ∧ w.cell? ⟨g, o + 12, none⟩ = some c.f :=
  ⟨h 0 (by decide), h 1 (by decide), h 2 (by decide), h 3 (by decide), h 4 (by decide), h 5 (by decide), h 6 (by decide), h 7 (by decide), h 8 (by decide), h 9 (by decide), h 10 (by decide), h 11 (by decide), h 12 (by decide)⟩
theorem Below.drewN' {B n : Nat} {w w' : World} (h : Below B w w') : Below B w (w'.drewN n) := ⟨h.os, h.tape, h.output, h.size, h.block⟩

theorem RSame_any : ∀ (n : Nat) (a b : V) (ca cb : VC) (w : World), SizeOf.sizeOf a ≤ n → RdV w ca a → RdV w cb b →
    Calls Tryz.prog 12 #[aggV ca, aggV cb] w fun e w' => e = .returned (.bool (eqV a b)) ∧ Below w.heap.size w w' := by
  intro n
  induction n with
  | zero => intro a b ca cb w hn; exfalso; cases a; rw [V.mk.sizeOf_spec] at hn; omega
  | succ n ih =>
    intro a b ca cb w hn ha hb
    cases ha with
    | mk h l f bv lv fv lc fc ok hB hl hL hf hK hF _ _ _ =>
    cases hb with
    | mk h' l' f' bv' lv' fv' lc' fc' ok' hB' hl' hL' hf' hK' hF' _ _ _ =>
    obtain ⟨a0, a1, a2, a3, a4, a5, a6, a7, a8, a9, a10⟩ := h
    obtain ⟨b0, b1, b2, b3, b4, b5, b6, b7, b8, b9, b10⟩ := h'
    have IH := Lib.hid ih; clear ih
    obtain ⟨la, lcap, rfl, hl1, ⟨hl2, _⟩, hl3, hl4⟩ := hl
    obtain ⟨ma, mcap, rfl, hm1, ⟨hm2, _⟩, hm3, hm4⟩ := hl'
    obtain ⟨fa, fcap, rfl, hf1, ⟨hf2, _⟩, hf3, hf4⟩ := hf
    obtain ⟨ga, gcap, rfl, hg1, ⟨hg2, _⟩, hg3, hg4⟩ := hf'
    have HL := Lib.hid hl4; clear hl4
    have HM := Lib.hid hm4; clear hm4
    have HF := Lib.hid hf4; clear hf4
    have HG := Lib.hid hg4; clear hg4
    have HLi := Lib.hid hL; clear hL
    have HMi := Lib.hid hL'; clear hL'
    have HFi := Lib.hid hF; clear hF
    have HGi := Lib.hid hF'; clear hF'
    have HK := Lib.hid hK; clear hK
    have HK' := Lib.hid hK'; clear hK'
    have HOK := Lib.hid ok; clear ok
    have HOK' := Lib.hid ok'; clear ok'
    dsimp only at hB hB'
    simp only [aggV]
    have hcv : ∀ x y, (convert 26 9 bv).run Tryz.prog ((w.alloc x).alloc y) = .ok (.string ⟨a10.toArray⟩) ((w.alloc x).alloc y) := fun x y => conv_rdb (hB.below (((Below.refl _ w).alloc (Nat.le_refl _) _).alloc (by simp) _))
    have hcv' : ∀ x y, (convert 26 9 bv').run Tryz.prog ((w.alloc x).alloc y) = .ok (.string ⟨b10.toArray⟩) ((w.alloc x).alloc y) := fun x y => conv_rdb (hB'.below (((Below.refl _ w).alloc (Nat.le_refl _) _).alloc (by simp) _))
    obtain ⟨r, hr⟩ : ∃ r, eqV (.mk ⟨a0, a1, a2, a3, a4, a5, a6, a7, a8, a9, a10⟩ l f) (.mk ⟨b0, b1, b2, b3, b4, b5, b6, b7, b8, b9, b10⟩ l' f') = r := ⟨_, rfl⟩
    rw [hr]
    obtain ⟨q, hq⟩ : ∃ q : Bool, decide (a0 = b0 ∧ a1 = b1 ∧ a2 = b2 ∧ a3.toList = b3.toList ∧ a4 = b4 ∧ a5 = b5 ∧ a6 = b6 ∧ a7 = b7 ∧ a8 = b8 ∧ a9.toList = b9.toList ∧ a10 = b10 ∧ (l.length : Int) = l'.length ∧ ((f.length : Int) != f'.length) = false) = !q := ⟨!decide _, by rw [Bool.not_not]⟩
    have HT : Hid (¬ (a0 = b0 ∧ a1 = b1 ∧ a2 = b2 ∧ a3.toList = b3.toList ∧ a4 = b4 ∧ a5 = b5 ∧ a6 = b6 ∧ a7 = b7 ∧ a8 = b8 ∧ a9.toList = b9.toList ∧ a10 = b10 ∧ (l.length : Int) = l'.length ∧ ((f.length : Int) != f'.length) = false) → q = true) := by
      intro h; rw [decide_eq_false h] at hq; cases q <;> first | rfl | cases hq
    have HN : Hid ((a0 = b0 ∧ a1 = b1 ∧ a2 = b2 ∧ a3.toList = b3.toList ∧ a4 = b4 ∧ a5 = b5 ∧ a6 = b6 ∧ a7 = b7 ∧ a8 = b8 ∧ a9.toList = b9.toList ∧ a10 = b10 ∧ (l.length : Int) = l'.length ∧ ((f.length : Int) != f'.length) = false) → q = false) := by
      intro h; rw [decide_eq_true h] at hq; cases q <;> first | rfl | cases hq
    have HNO : Hid (q = true → r = false) := by
      intro hc
      rw [hc] at hq
      rw [← hr, Bool.eq_false_iff]
      intro he
      apply of_decide_eq_false hq
      rw [eqV_iff] at he
      injection he with e1 e2 e3
      injection e1 with c0 c1 c2 c3 c4 c5 c6 c7 c8 c9 c10
      exact ⟨c0, c1, c2, by rw [c3], c4, c5, c6, c7, c8, by rw [c9], c10, by rw [e2], by rw [e3]; simp⟩
    have HYES : Hid (q = false → r = (eqL l l' && eqF f f') ∧ l.length = l'.length ∧ f.length = f'.length) := by
      intro hc
      rw [hc] at hq
      obtain ⟨c0, c1, c2, c3, c4, c5, c6, c7, c8, c9, c10, c11, c12⟩ := of_decide_eq_true hq
      rw [toList_L, toList_L] at c3 c9
      rw [bne_eq_false_iff_eq] at c12
      rw [← hr, eqV_mk, (eqH_iff _ _).2 (by rw [c0, c1, c2, L_inj c3, c4, c5, c6, c7, c8, L_inj c9, c10]), Bool.true_and]
      exact ⟨rfl, by omega, by omega⟩
    clear hr hq
    go_enter Tryz.func12, Tryz.ntmps12
    go_upto_region 1 with fail
    go_cut [66] (fun v wx => v = .bool q ∧ wx = (w.alloc (.cells #[.int .i64 a0, .bool a1, .bool a2, .string a3, .int .i64 a4, .int .i64 a5, .int .i64 a6, .int .i64 a7, .int .i64 a8, .string a9, bv, .slice la l.length lcap, .slice fa f.length fcap] 30)).alloc (.cells #[.int .i64 b0, .bool b1, .bool b2, .string b3, .int .i64 b4, .int .i64 b5, .int .i64 b6, .int .i64 b7, .int .i64 b8, .string b9, bv', .slice ma l'.length mcap, .slice ga f'.length gcap] 30))
    case first =>
      go_wp2_with fail
      all_goals
        subst_vars
        go_meet
        refine ⟨?_, rfl⟩
        · first
            | (rw [HN.out ⟨rfl, rfl, rfl, by assumption, rfl, rfl, rfl, rfl, rfl, by assumption, rfl, by assumption, by assumption⟩] <;> rfl)
            | (rw [HT.out (by rintro ⟨c0, c1, c2, c3, c4, c5, c6, c7, c8, c9, c10, c11, c12⟩; first | contradiction | exact Bool.false_ne_true (c12.symm.trans (by assumption)))] <;> rfl)
            | (cases hx : ((f.length : Int) != f'.length)
               · rw [HN.out ⟨rfl, rfl, rfl, by assumption, rfl, rfl, rfl, rfl, rfl, by assumption, rfl, by assumption, hx⟩]
               · rw [HT.out (by rintro ⟨c0, c1, c2, c3, c4, c5, c6, c7, c8, c9, c10, c11, c12⟩; rw [hx] at c12; cases c12)])
    case rest =>
      obtain ⟨rfl, hw⟩ := hcut
      have hb2 : Below w.heap.size w wc := by rw [hw]; exact ((Below.refl _ w).alloc (Nat.le_refl _) _).alloc (by simp) _
      have hz2 : wc.heap.size = w.heap.size + 2 := by rw [hw]; simp
      have x11 : wc.cell? ⟨w.heap.size, 11, none⟩ = some (.slice la l.length lcap) := by rw [hw]; simp
      have x12 : wc.cell? ⟨w.heap.size, 12, none⟩ = some (.slice fa f.length fcap) := by rw [hw]; simp
      have y11 : wc.cell? ⟨w.heap.size + 1, 11, none⟩ = some (.slice ma l'.length mcap) := by rw [hw]; simp
      have y12 : wc.cell? ⟨w.heap.size + 1, 12, none⟩ = some (.slice ga f'.length gcap) := by rw [hw]; simp
      clear hw HT HN hB hB' hcv hcv'
      cases q
      case true =>
        have HF := Lib.hid (HNO.out rfl)
        clear HNO HYES
        go_wp2_with fail
        go_ret
        exact ⟨by rw [HF.out]; rfl, hb2⟩
      case false =>
        obtain ⟨hr, hll, hff⟩ := HYES.out rfl
        have HR := Lib.hid hr
        have HLL := Lib.hid hll
        have HFF := Lib.hid hff
        clear HNO HYES hr hll hff
        have HB2 := Lib.hid hb2
        have HZ2 := Lib.hid hz2
        have HX := Lib.hid (And.intro x11 (And.intro x12 (And.intro y11 y12)))
        clear hb2 hz2 x11 x12 y11 y12
        go_wp2_with fail
        go_loopw [5] (fun i wr => ∃ k : Nat, k ≤ l.length ∧ i = .int .i64 k ∧ Hid (r = (eqL (l.drop k) (l'.drop k) && eqF f f')) ∧ Below wc.heap.size wc wr) (fun i _ => l.length - (intOf i).toNat)
        case atStart => exact ⟨0, by omega, rfl, HR.out, Below.refl _ _⟩
        case round =>
          clear HR
          obtain ⟨k, hk, rfl, HR, hbw⟩ := hrel
          obtain ⟨x11, x12, y11, y12⟩ := HX.out
          have hz := hbw.size
          rw [HZ2.out] at hz
          rw [← hbw.cell (p := ⟨w.heap.size, 11, none⟩) (by rw [HZ2.out]; exact Nat.lt_add_of_pos_right (by decide))] at x11
          rw [← hbw.cell (p := ⟨w.heap.size + 1, 11, none⟩) (by rw [HZ2.out]; exact Nat.lt_succ_self _)] at y11
          by_cases hlt : k < l.length
          case pos =>
            have hlt' : k < l'.length := by have := HLL.out; omega
            obtain ⟨g, o, rfl, hg, hat⟩ := HL.out (by omega)
            obtain ⟨g', o', rfl, hg', hat'⟩ := HM.out (by omega)
            have hbw0 : Below w.heap.size w wr := HB2.out.trans (hbw.mono (by rw [HZ2.out]; omega))
            have hrd := (HLi.out k hlt).stays hbw0
            have hrd' := (HMi.out k hlt').stays hbw0
            have hsz := sz_l ⟨a0, a1, a2, a3, a4, a5, a6, a7, a8, a9, a10⟩ l f k hlt
            have HS : Hid (r = ((eqV l[k] l'[k] && eqL (l.drop (k + 1)) (l'.drop (k + 1))) && eqF f f')) := by unfold Hid; rw [HR.out, eqL_drop l l' k hlt hlt']
            have hc13 := fun j hj => (hbw0.cell hg).trans (hat k hlt j hj)
            have hd13 := fun j hj => (hbw0.cell hg').trans (hat' k hlt' j hj)
            have HIH := Lib.hid (fun w' (hb' : Below wr.heap.size wr w') => IH.out l[k] l'[k] (lc k) (lc' k) w' (by omega) (hrd.stays hb') (hrd'.stays hb'))
            clear hat hat' hrd hrd' HR hsz
            generalize eqV l[k] l'[k] = e at *
            generalize lc k = c at *
            generalize lc' k = c' at *
            obtain ⟨⟨p0, p1, p2, p3, p4, p5, p6, p7, p8, p9, p10⟩, p11, p12, p13⟩ := c
            obtain ⟨⟨q0, q1, q2, q3, q4, q5, q6, q7, q8, q9, q10⟩, q11, q12, q13⟩ := c'
            obtain ⟨c0, c1, c2, c3, c4, c5, c6, c7, c8, c9, c10, c11, c12⟩ := cells13 hc13
            obtain ⟨d0, d1, d2, d3, d4, d5, d6, d7, d8, d9, d10, d11, d12⟩ := cells13 hd13
            simp only at c0 c1 c2 c3 c4 c5 c6 c7 c8 c9 c10 c11 c12 d0 d1 d2 d3 d4 d5 d6 d7 d8 d9 d10 d11 d12
            clear hc13 hd13
            go_wp2_with fail
            go_still_tail 10, (by kernel_rfl)
            change wpList _ _ _ _ _ wr.drew
            have hdr : Below wr.heap.size wr wr.drew := ⟨rfl, rfl, rfl, Nat.le_refl _, fun _ _ => rfl⟩
            have HC := HIH.out wr.drew hdr
            have hbw3 : Below wc.heap.size wc wr.drew := hbw.trans (hdr.mono hbw.size)
            clear HIH hdr c0 c1 c2 c3 c4 c5 c6 c7 c8 c9 c10 c11 c12 d0 d1 d2 d3 d4 d5 d6 d7 d8 d9 d10 d11 d12 x11 y11 hbw0 hbw
            have HC := Lib.hid HC
            generalize wr.drew = w3 at *
            go_wp2_with fail
            refine HC.out.mono ?_
            rintro ee w4 ⟨rfl, hb4⟩
            have hbw4 := hbw3.trans (hb4.mono hbw3.size)
            clear HC hbw3 hb4
            cases e
            case false =>
              have HF : Hid (r = false) := by unfold Hid; rw [HS.out]; rfl
              clear HS
              go_wp2_with fail
              go_ret
              exact ⟨by rw [HF.out]; rfl, HB2.out.trans (hbw4.mono (by rw [HZ2.out]; omega))⟩
            case true =>
              have HF : Hid (r = (eqL (l.drop (k + 1)) (l'.drop (k + 1)) && eqF f f')) := by unfold Hid; rw [HS.out, Bool.true_and]
              clear HS
              go_wp2_with fail
              exact ⟨⟨k + 1, by omega, rfl, HF, hbw4⟩, by simp [intOf]; omega⟩
          case neg =>
            have HR2 : Hid (r = eqF f f') := by unfold Hid; rw [HR.out, List.drop_of_length_le (by omega), List.drop_of_length_le (by have := HLL.out; omega), eqL, Bool.true_and]
            have x12 := (hbw.cell (p := ⟨w.heap.size, 12, none⟩) (by rw [HZ2.out]; exact Nat.lt_add_of_pos_right (by decide))).trans x12
            clear HR HL HM HLi HMi y11 y12
            go_wp2_with fail
            clear x11 x12 hz
            go_loopw [6] (fun i wq => ∃ k : Nat, k ≤ f.length ∧ i = .int .i64 k ∧ Hid (r = eqF (f.drop k) (f'.drop k)) ∧ Below wc.heap.size wc wq) (fun i _ => f.length - (intOf i).toNat)
            case atStart => exact ⟨0, by omega, rfl, HR2.out, hbw⟩
            case round =>
              clear HR2 hbw hlt hk
              obtain ⟨k, hk, rfl, HR, hbw⟩ := hrel
              obtain ⟨x11, x12, y11, y12⟩ := HX.out
              have hz := hbw.size
              rw [HZ2.out] at hz
              rw [← hbw.cell (p := ⟨w.heap.size, 12, none⟩) (by rw [HZ2.out]; exact Nat.lt_add_of_pos_right (by decide))] at x12
              rw [← hbw.cell (p := ⟨w.heap.size + 1, 12, none⟩) (by rw [HZ2.out]; exact Nat.lt_succ_self _)] at y12
              clear x11 y11
              by_cases hlt : k < f.length
              case neg =>
                have HE : Hid (r = true) := by unfold Hid; rw [HR.out, List.drop_of_length_le (by omega), List.drop_of_length_le (by have := HFF.out; omega), eqF]
                clear HR HF HG HFi HGi
                go_wp2_with fail
                go_ret
                exact ⟨by rw [HE.out]; rfl, HB2.out.trans (hbw.mono (by rw [HZ2.out]; omega))⟩
              have hlt' : k < f'.length := by have := HFF.out; omega
              obtain ⟨g, o, rfl, hg, hat⟩ := HF.out (by omega)
              obtain ⟨g', o', rfl, hg', hat'⟩ := HG.out (by omega)
              have hbw0 : Below w.heap.size w wr := HB2.out.trans (hbw.mono (by rw [HZ2.out]; omega))
              have hrd := (HFi.out k hlt).stays hbw0
              have hrd' := (HGi.out k hlt').stays hbw0
              have hsz := sz_f ⟨a0, a1, a2, a3, a4, a5, a6, a7, a8, a9, a10⟩ l f k hlt
              have HS : Hid (r = (decide (f[k].1 = f'[k].1) && (eqV f[k].2 f'[k].2 && eqF (f.drop (k + 1)) (f'.drop (k + 1))))) := by unfold Hid; rw [HR.out, eqF_drop f f' k hlt hlt']
              have hc14 := fun j hj => (hbw0.cell hg).trans (hat k hlt j hj)
              have hd14 := fun j hj => (hbw0.cell hg').trans (hat' k hlt' j hj)
              have ek : (f.getD k (⟨#[]⟩, .mk ⟨a0, a1, a2, a3, a4, a5, a6, a7, a8, a9, a10⟩ l f)).1 = f[k].1 := by rw [List.getD_eq_getElem?_getD, List.getElem?_eq_getElem hlt]; rfl
              have ek' : (f'.getD k (⟨#[]⟩, .mk ⟨b0, b1, b2, b3, b4, b5, b6, b7, b8, b9, b10⟩ l' f')).1 = f'[k].1 := by rw [List.getD_eq_getElem?_getD, List.getElem?_eq_getElem hlt']; rfl
              have hc0 : wr.cell? ⟨g, o + k * 14, none⟩ = some (.string f[k].1) := by have := hc14 0 (by decide); rw [← ek]; exact this
              have hd0 : wr.cell? ⟨g', o' + k * 14, none⟩ = some (.string f'[k].1) := by have := hd14 0 (by decide); rw [← ek']; exact this
              have hc13 : ∀ j, j < 13 → wr.cell? ⟨g, o + k * 14 + 1 + j, none⟩ = (fc k).cells[j]? := fun j hj => by have := hc14 (j + 1) (by omega); rw [show o + k * 14 + 1 + j = o + k * 14 + (j + 1) by omega]; exact this
              have hd13 : ∀ j, j < 13 → wr.cell? ⟨g', o' + k * 14 + 1 + j, none⟩ = (fc' k).cells[j]? := fun j hj => by have := hd14 (j + 1) (by omega); rw [show o' + k * 14 + 1 + j = o' + k * 14 + (j + 1) by omega]; exact this
              have HIH := Lib.hid (fun w' (hb' : Below wr.heap.size wr w') => IH.out f[k].2 f'[k].2 (fc k) (fc' k) w' (by omega) (hrd.stays hb') (hrd'.stays hb'))
              clear hat hat' hrd hrd' HR hsz hc14 hd14 ek ek'
              generalize eqV f[k].2 f'[k].2 = e at *
              generalize f[k].1 = key at *
              generalize f'[k].1 = key' at *
              generalize fc k = c at *
              generalize fc' k = c' at *
              obtain ⟨⟨p0, p1, p2, p3, p4, p5, p6, p7, p8, p9, p10⟩, p11, p12, p13⟩ := c
              obtain ⟨⟨q0, q1, q2, q3, q4, q5, q6, q7, q8, q9, q10⟩, q11, q12, q13⟩ := c'
              obtain ⟨c0, c1, c2, c3, c4, c5, c6, c7, c8, c9, c10, c11, c12⟩ := cells13 hc13
              obtain ⟨d0, d1, d2, d3, d4, d5, d6, d7, d8, d9, d10, d11, d12⟩ := cells13 hd13
              simp only at c0 c1 c2 c3 c4 c5 c6 c7 c8 c9 c10 c11 c12 d0 d1 d2 d3 d4 d5 d6 d7 d8 d9 d10 d11 d12
              clear hc13 hd13
              by_cases hkk : key = key'
              case neg =>
                have hkk' : (key.toList == key'.toList) = false := by rw [beq_eq_false_iff_ne, ne_eq, toList_L, toList_L]; exact fun h => hkk (L_inj h)
                have HF : Hid (r = false) := by unfold Hid; rw [HS.out, decide_eq_false hkk]; rfl
                clear HS hkk HIH c0 c1 c2 c3 c4 c5 c6 c7 c8 c9 c10 c11 c12 d0 d1 d2 d3 d4 d5 d6 d7 d8 d9 d10 d11 d12
                go_wp2_with fail
                go_quiet (fail)
                go_wp2_with fail
                go_ret
                exact ⟨by rw [HF.out]; rfl, Below.drewN' (HB2.out.trans (hbw.mono (by rw [HZ2.out]; omega)))⟩
              case pos =>
                have hkk' : (key.toList == key'.toList) = true := by rw [hkk]; exact beq_self_eq_true _
                have HS : Hid (r = (e && eqF (f.drop (k + 1)) (f'.drop (k + 1)))) := by unfold Hid; rw [HS.out, decide_eq_true hkk, Bool.true_and]
                clear hkk
                go_wp2_with fail
                go_still_tail 26, (by kernel_rfl)
                change wpList _ _ _ _ _ wr.drew
                have hdr : Below wr.heap.size wr wr.drew := ⟨rfl, rfl, rfl, Nat.le_refl _, fun _ _ => rfl⟩
                have HC := HIH.out wr.drew hdr
                have hbw3 : Below wc.heap.size wc wr.drew := hbw.trans (hdr.mono hbw.size)
                clear HIH hdr c0 c1 c2 c3 c4 c5 c6 c7 c8 c9 c10 c11 c12 d0 d1 d2 d3 d4 d5 d6 d7 d8 d9 d10 d11 d12 x12 y12 hbw0 hbw hc0 hd0
                have HC := Lib.hid HC
                generalize wr.drew = w3 at *
                go_wp2_with fail
                refine HC.out.mono ?_
                rintro ee w4 ⟨rfl, hb4⟩
                have hbw4 := hbw3.trans (hb4.mono hbw3.size)
                clear HC hbw3 hb4
                cases e
                case false =>
                  have HE : Hid (r = false) := by unfold Hid; rw [HS.out]; rfl
                  clear HS
                  go_wp2_with fail
                  go_ret
                  exact ⟨by rw [HE.out]; rfl, HB2.out.trans (hbw4.mono (by rw [HZ2.out]; omega))⟩
                case true =>
                  have HE : Hid (r = eqF (f.drop (k + 1)) (f'.drop (k + 1))) := by unfold Hid; rw [HS.out, Bool.true_and]
                  clear HS
                  go_wp2_with fail
                  exact ⟨⟨k + 1, by omega, rfl, HE, hbw4⟩, by simp [intOf]; omega⟩
end Go.Proofs.YtlnpfpjncnkekaaGreatDoor

namespace Go.Proofs.YtlnpfpjncnkekaaGreatDoor
open Go.RowKit
set_option maxHeartbeats 4000000
set_option maxRecDepth 100000

/-- The digits of a number, the last first. -/
def digQ (n : Nat) : List UInt8 := if h : n = 0 then [] else UInt8.ofNat (48 + n % 10) :: digQ (n / 10)
termination_by n
decreasing_by omega
def numL (n : Nat) : List UInt8 := (digQ n).reverse
theorem digQ_pos (n : Nat) (h : 0 < n) : digQ n = UInt8.ofNat (48 + n % 10) :: digQ (n / 10) := by
  rw [digQ, dif_neg (by omega)]
theorem digQ_zero : digQ 0 = [] := by rw [digQ, dif_pos rfl]
theorem numL_pos (n : Nat) (h : 0 < n) : numL n = numL (n / 10) ++ [UInt8.ofNat (48 + n % 10)] := by
  unfold numL
  rw [digQ_pos n h, List.reverse_cons]
theorem digQ_len : ∀ (k n : Nat), n < 10 ^ k → (digQ n).length ≤ k
  | 0, n, h => by
    have : n = 0 := by simpa using h
    rw [this, digQ_zero]
    exact Nat.le_refl _
  | k + 1, n, h => by
    rcases Nat.eq_zero_or_pos n with rfl | hp
    · rw [digQ_zero]; exact Nat.zero_le _
    · rw [digQ_pos n hp, List.length_cons]
      have := digQ_len k (n / 10) (by rw [Nat.pow_succ] at h; omega)
      omega
end Go.Proofs.YtlnpfpjncnkekaaGreatDoor

namespace Go.Proofs.YtlnpfpjncnkekaaGreatDoor
open Go.RowKit
set_option maxHeartbeats 1000000
set_option maxRecDepth 100000

end Go.Proofs.YtlnpfpjncnkekaaGreatDoor
