/- datakitref07.look, Check walked. Conditions: at most 10^6 values in all. -/
import Derived.Test.YthdninnjjmhpfaaGreatDoorTn
namespace Go.Proofs.YthdninnjjmhpfaaGreatDoor
open Go.RowKit
set_option maxHeartbeats 4000000
set_option maxRecDepth 100000

theorem nod_kid (v : V) (i : Nat) (hi : i < (kidsV v).length) : nodV (kidsV v)[i] ≤ nodV v := by
  obtain ⟨h, l, f⟩ := v
  have key : ∀ (x : V), x ∈ kidsV (.mk h l f) → nodV x ≤ nodV (V.mk h l f) := by
    intro x hx
    rw [nodV_mk]
    rw [kidsV] at hx
    split at hx
    · obtain ⟨y, hy, rfl⟩ := List.mem_map.1 hx
      obtain ⟨j, hj, rfl⟩ := List.getElem_of_mem hy
      have := nodF_at f j hj
      omega
    · obtain ⟨j, hj, rfl⟩ := List.getElem_of_mem hx
      have := nodL_at l j hj
      omega
  exact key _ (List.getElem_mem hi)
theorem rii {a b c d : Int} (h : a = b) (h2 : c = d) : Ending.returned (.tuple #[.int .i64 a, .int .i64 c]) = Ending.returned (.tuple #[.int .i64 b, .int .i64 d]) := by rw [h, h2]
theorem oneE_le (h : Hd) (nl : Nat) (ks : List ByteArray) : oneE h nl ks ≤ 10 := by
  have hk : ∀ (t s : List ByteArray), keysE s t ≤ 10 := by
    intro t
    induction t with
    | nil => intro s; rw [keysE]; omega
    | cons k t ih =>
      intro s
      rw [keysE]
      split
      · omega
      split
      · omega
      split
      · omega
      · exact ih _
  unfold oneE
  split
  · omega
  split
  · omega
  split
  · omega
  split
  · omega
  · exact hk _ _
theorem look7_any : ∀ (n : Nat) (v : V) (c : VC) (w : World) (d s : Int), SizeOf.sizeOf v ≤ n → nodV v ≤ 1000000 → 0 ≤ d → d ≤ 1000 → 0 ≤ s → s ≤ 65536 → RdV w c v →
    Calls Tryz.prog 28 #[aggV c, .int .i64 d, .int .i64 s] w fun e w' => e = .returned (.tuple #[.int .i64 (lookV v d s).1, .int .i64 ((lookV v d s).2 : Nat)]) ∧ Below w.heap.size w w' := by
  intro n
  induction n with
  | zero => intro v c w d s hn; exfalso; cases v; rw [V.mk.sizeOf_spec] at hn; omega
  | succ n ih =>
    intro v c w d s hn hnod hd0 hd1 hs0 hs1 hv
    have IH := Lib.hid ih; clear ih
    have HV := Lib.hid hv
    obtain ⟨h, l, f⟩ := v
    have HONE := Lib.hid (fun w' (hb : Below w.heap.size w w') => one7_any h l f c w' (hv.stays hb))
    have HKID := Lib.hid (fun w' (hb : Below w.heap.size w w') => Kids7_any (.mk h l f) c w' hnod (hv.stays hb))
    obtain ⟨⟨a0, a1, a2, a3, a4, a5, a6, a7, a8, a9, a10⟩, b1, b2, b3, n1, n2, n3, m1, m2, m3, rfl⟩ := hv.forms
    have HSZ := Lib.hid (fun i hi => sz_kid (.mk h l f) i hi)
    have HND := Lib.hid (fun i hi => nod_kid (.mk h l f) i hi)
    have HN := Lib.hid hn
    have HNOD := Lib.hid hnod
    have HLE := Lib.hid (oneE_le h l.length (f.map (·.1)))
    obtain ⟨R, hR⟩ : ∃ R, R = lookV (.mk h l f) d s := ⟨_, rfl⟩
    rw [← hR]
    rw [lookV_mk] at hR
    have HR := Lib.hid hR
    clear hR hv hn hnod
    have hb1 : ∀ x, Below w.heap.size w (w.alloc x) := fun x => (Below.refl _ _).alloc (Nat.le_refl _) _
    have HB1 := Lib.hid hb1; clear hb1
    simp only [aggV] at HONE HKID ⊢
    by_cases h48 : 48 < d
    · have HF := Lib.hid (HR.out.trans (if_pos h48))
      clear HR
      go_enter Tryz.func28, Tryz.ntmps28
      go_wp2_with fail
      go_ret2
      exact ⟨rii (by rw [HF.out]) (by rw [HF.out]; rfl), HB1.out _⟩
    have HRa := Lib.hid (HR.out.trans (if_neg h48))
    clear HR
    by_cases h65 : 65536 ≤ s
    · have HF := Lib.hid (HRa.out.trans (if_pos h65))
      have hq : ((65536 : Int) ≤ s) = True := eq_true h65
      clear HRa h65
      go_enter Tryz.func28, Tryz.ntmps28
      go_wp2_with fail
      go_ret2
      exact ⟨rii (by rw [HF.out]) (by rw [HF.out]; rfl), HB1.out _⟩
    have HRb := Lib.hid (HRa.out.trans (if_neg h65))
    have hq : ((65536 : Int) ≤ s) = False := eq_false h65
    have HS1 : Hid (s < 65536) := by unfold Hid; omega
    clear HRa h65 hs1
    generalize oneE h l.length (f.map (·.1)) = e1 at *
    by_cases he : e1 = 0
    case neg =>
      have HF := Lib.hid (HRb.out.trans (if_pos he))
      have hqe : ((e1 : Int) != 0) = true := by rw [bne_iff_ne]; omega
      clear HRb he
      go_enter Tryz.func28, Tryz.ntmps28
      go_wp2_with fail
      refine (HONE.out _ (HB1.out _)).mono ?_
      rintro e w1 ⟨rfl, hb⟩
      obtain ⟨hbw, hx, hz⟩ := held13 hb
      clear hb hx
      go_wp2_with fail
      go_ret2
      exact ⟨rii (by rw [HF.out]) (by rw [HF.out]), hbw⟩
    case pos =>
    subst he
    have HRc : Hid (R = lookL (kidsV (.mk h l f)) (d + 1) (s + 1)) := by unfold Hid; rw [HRb.out, if_neg (by simp)]
    clear HRb
    have hw1 : IntKind.i64.wrap (s + 1) = s + 1 := IntWalk.i64_in _ ⟨by omega, by have := HS1.out; omega⟩
    have HS2 : Hid (s + 1 ≤ 65536) := by unfold Hid; have := HS1.out; omega
    go_enter Tryz.func28, Tryz.ntmps28
    go_wp2_with fail
    refine (HONE.out _ (HB1.out _)).mono ?_
    rintro e w1 ⟨rfl, hb⟩
    obtain ⟨hbw, hx, hz⟩ := held13 hb
    obtain ⟨⟨x0, x1, x2, x3, x4, x5, x6, x7, x8, x9, x10, x11, x12⟩, xf⟩ := box13 hx
    clear hb hx HONE
    go_wp2_with fail
    refine (HKID.out _ hbw).mono ?_
    rintro e w2 ⟨ka, kcap, lc, rfl, hsl, hel, hb2⟩
    have hbw2 := hbw.trans (hb2.mono hbw.size)
    obtain ⟨_, _, hka, hl1, ⟨hl2, _⟩, hl3, hl4⟩ := hsl
    injection hka with hka1 hka2 hka3
    subst hka1 hka3
    have HAT := Lib.hid hl4
    have HEL := Lib.hid hel
    clear x0 x1 x2 x3 x4 x5 x6 x7 x8 x9 x10 x11 x12 xf hb2 hl4 hel hl3 hbw HKID hz
    generalize kidsV (.mk h l f) = ks at *
    go_wp2_with fail
    clear hw1
    go_loopw [2, 10] (fun sv iv wr => ∃ (k : Nat) (s1 : Int), k ≤ ks.length ∧ iv = .int .i64 k ∧ sv = .int .i64 s1 ∧ 0 ≤ s1 ∧ Hid (s1 ≤ 65536) ∧ Hid (R = lookL (ks.drop k) (d + 1) s1) ∧ Hid (Below w2.heap.size w2 wr)) (fun _ iv _ => ks.length - (intOf iv).toNat)
    case atStart => exact ⟨0, s + 1, Nat.zero_le _, rfl, rfl, by omega, HS2.out, by rw [List.drop_zero]; exact HRc.out, Below.refl _ _⟩
    case round =>
      clear HRc HS2 HS1
      obtain ⟨k, s1, hk, rfl, rfl, hs10, HS3, HC, HBR⟩ := hrel
      by_cases hlt : k < ks.length
      case neg =>
        have HF : Hid (R = (s1, 0)) := by unfold Hid; rw [HC.out, List.drop_of_length_le (by omega), lookL]
        clear HC
        go_wp2_with fail
        go_ret2
        exact ⟨rii (by rw [HF.out]) (by rw [HF.out]; rfl), hbw2.trans (HBR.out.mono hbw2.size)⟩
      obtain ⟨g, o, rfl, hg, hat⟩ := HAT.out (by omega)
      have hrd := (HEL.out k hlt).stays HBR.out
      have hc13 := fun j hj => (HBR.out.cell hg).trans (hat k hlt j hj)
      have HIH := Lib.hid (IH.out ks[k] (lc k) wr (d + 1) s1 (by have := HSZ.out k hlt; have := HN.out; omega) (by have := HND.out k hlt; have := HNOD.out; omega) (by omega) (by omega) hs10 HS3.out hrd)
      have HS := Lib.hid (HC.out.trans (lookL_drop ks k hlt (d + 1) s1))
      have hbd := lookV_bd _ ks[k] (d + 1) s1 (Nat.le_refl _)
      have hfm := hrd.forms
      clear hat hrd HC
      generalize lookV ks[k] (d + 1) s1 = r2 at *
      obtain ⟨s2, e2⟩ := r2
      generalize lc k = c at *
      obtain ⟨⟨p0, p1, p2, p3, p4, p5, p6, p7, p8, p9, p10⟩, q1, q2, q3, n1, n2, n3, m1, m2, m3, rfl⟩ := hfm
      obtain ⟨c0, c1, c2, c3, c4, c5, c6, c7, c8, c9, c10, c11, c12⟩ := cells13 hc13
      simp only at c0 c1 c2 c3 c4 c5 c6 c7 c8 c9 c10 c11 c12 HIH hbd HS
      clear hc13
      have HBD : Hid (0 ≤ s2 ∧ s2 ≤ 65536) := by unfold Hid; have := HS3.out; omega
      clear hbd
      by_cases he : e2 = 0
      case neg =>
        have HF : Hid (R = (s2, e2)) := by unfold Hid; rw [HS.out, if_pos he]
        have hqe : ((e2 : Int) != 0) = true := by rw [bne_iff_ne]; omega
        clear HS he
        go_wp2_with fail
        refine HIH.out.mono ?_
        rintro e w4 ⟨rfl, hb5⟩
        have hb6 := HBR.out.trans (hb5.mono HBR.out.size)
        go_wp2_with fail
        go_ret2
        exact ⟨rii (by rw [HF.out]) (by rw [HF.out]), hbw2.trans (hb6.mono hbw2.size)⟩
      case pos =>
        subst he
        have HF : Hid (R = lookL (ks.drop (k + 1)) (d + 1) s2) := by unfold Hid; rw [HS.out, if_neg (by simp)]
        clear HS
        go_wp2_with fail
        refine HIH.out.mono ?_
        rintro e w4 ⟨rfl, hb5⟩
        have hb6 := HBR.out.trans (hb5.mono HBR.out.size)
        go_wp2_with fail
        exact ⟨⟨k + 1, s2, by omega, rfl, rfl, HBD.out.1, HBD.out.2, HF, hb6⟩, by simp [intOf]; omega⟩
theorem Check7_any (v : V) (c : VC) (w : World) (hn : nodV v ≤ 1000000) (hv : RdV w c v) :
    Calls Tryz.prog 13 #[aggV c] w fun e w' => e = .returned (.int .i64 (checkV v : Nat)) ∧ Below w.heap.size w w' := by
  obtain ⟨h, a1, a2, a3, n1, n2, n3, m1, m2, m3, rfl⟩ := hv.forms
  have HL := Lib.hid (fun w' (hb : Below w.heap.size w w') => look7_any _ v ⟨h, .slice a1 n1 m1, .slice a2 n2 m2, .slice a3 n3 m3⟩ w' 1 0 (Nat.le_refl _) hn (by decide) (by decide) (by decide) (by decide) (hv.stays hb))
  clear hv
  unfold checkV
  simp only [aggV] at HL ⊢
  generalize lookV v 1 0 = r at *
  have hb1 : ∀ x, Below w.heap.size w (w.alloc x) := fun x => (Below.refl _ _).alloc (Nat.le_refl _) _
  have HB1 := Lib.hid hb1; clear hb1
  go_enter Tryz.func13, Tryz.ntmps13
  go_wp2_with fail
  refine (HL.out _ (HB1.out _)).mono ?_
  rintro e w1 ⟨rfl, hb⟩
  obtain ⟨hbw, hx, hz⟩ := held13 hb
  clear hb hx
  go_wp2_with fail
  go_ret
  exact ⟨rfl, hbw⟩
end Go.Proofs.YthdninnjjmhpfaaGreatDoor
