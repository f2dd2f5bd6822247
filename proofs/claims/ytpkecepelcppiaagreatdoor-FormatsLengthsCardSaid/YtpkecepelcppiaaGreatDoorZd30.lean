/- Own rows of patterns, by the row's own block; append of one pattern in a drawn region. Conditions: fewer than 10^9 parts. -/
import Derived.Test.YtpkecepelcppiaaGreatDoorZd20
import Derived.Test.YtpkecepelcppiaaGreatDoorZd28
import Derived.Test.YtpkecepelcppiaaGreatDoorZd3
import Derived.Deep.RegionHeld3
import Derived.Deep.DeepCutAuto
import Derived.Deep.CutBlock
namespace Go.Proofs.YtpkecepelcppiaaGreatDoor
open Go.RowKit Go.Shelf
set_option maxHeartbeats 4000000
set_option maxRecDepth 100000

def EnvG (g : Nat) (w : World) : Prop := ∃ w0, Env w0 ∧ w0.heap.size ≤ g ∧ Below w0.heap.size w0 w
theorem EnvG.env {g : Nat} {w : World} (h : EnvG g w) : Env w := by
 obtain ⟨w0, h1, _, h3⟩ := h
 exact h1.below h3
theorem EnvG.pk {g : Nat} {w w' : World} (h : EnvG g w) (hk : PK g w w') : EnvG g w' := by
 obtain ⟨w0, h1, h2, h3⟩ := h
 exact ⟨w0, h1, h2, h3.trans (hk.bel.mono h2)⟩
theorem EnvG.below {g : Nat} {w w' : World} (h : EnvG g w) (hb : Below w.heap.size w w') : EnvG g w' := by
 obtain ⟨w0, h1, h2, h3⟩ := h
 exact ⟨w0, h1, h2, h3.trans (hb.mono h3.size)⟩
theorem hexV_d1 (b : UInt8) : hexV b = hexd1 b := rfl
theorem hexF_V (a b : UInt8) : hexF 0 [a, b] = (match hexV a, hexV b with
 | some x, some y => some (16 * x + y)
 | _, _ => none) := by
 rw [hexV_d1, hexV_d1]
 simp only [hexF]
 cases hexd1 a with
 | none => rfl
 | some x =>
  cases hexd1 b with
  | none => rfl
  | some y => simp [Nat.mul_comm]
theorem PrsAt.below {g : Nat} {s : ByteArray} {i dp : Nat} {w w' : World} (h : PrsAt g s i dp w) (hb : Below w.heap.size w w') : PrsAt g s i dp w' := (hb.block g (Array.getElem?_eq_some_iff.1 h).1).trans h
theorem PK.refl (g : Nat) (w : World) : PK g w w := ⟨Below.refl _ _, fun _ _ _ => rfl⟩
theorem one_end (g : Nat) (s : ByteArray) (dp : Nat) (w : World) (h : PrsAt g s s.size dp w) :
  Calls Tryz.prog 166 #[.pointer (some ⟨g, 0, none⟩)] w (OkO g w (none : Option (Nat × List UInt8)) (fun n => .int .i64 (n : Int)) s dp) := by
 have HP := Lib.hid (peek_any g s s.size dp w h (Nat.le_refl _))
 have HG := Lib.hid (Array.getElem?_eq_some_iff.1 h).1
 have HR : Hid (pkR ((L s).drop s.size) = -1) := by
  unfold Hid
  rw [List.drop_of_length_le (by rw [L_len]; omega)]
  rfl
 clear h
 go_enter Tryz.func166, Tryz.ntmps166
 go_wp2_with fail
 refine HP.out.mono ?_
 rintro e w1 ⟨rfl, hx, hb⟩
 rw [HR.out]
 have HX := Lib.hid (And.intro hx (PK.of_below hb (Nat.le_of_lt HG.out)))
 obtain ⟨c0, c1, c2⟩ := row3 hx
 have hm1 : ((-1 : Int) == 92) = false := rfl
 clear hx hb HP HR HG
 go_upto_region 2 with fail
 go_quiet (fail)
 go_upto_region 8 with fail
 go_quiet (fail)
 go_wp2_with fail
 exact ⟨rfl, HX.out.2.trans ⟨below_drewN (Below.refl _ _) _, fun _ _ _ => rfl⟩, ⟨_, rfl⟩⟩
theorem one_chr (g : Nat) (s : ByteArray) (i dp : Nat) (c : UInt8) (t : List UInt8) (w : World) (h : PrsAt g s i dp w) (hi : i < s.size) (hs : s.size ≤ 1000000000) (hl : (L s).drop i = c :: t) (hc : ¬ (c = 92 ∧ 3 ≤ t.length ∧ t.head? = some 120)) :
  Calls Tryz.prog 166 #[.pointer (some ⟨g, 0, none⟩)] w (OkO g w (oneP (c :: t)) (fun n => .int .i64 (n : Int)) s dp) := by
 have HP := Lib.hid (peek_any g s i dp w h (Nat.le_of_lt hi))
 have HG := Lib.hid (Array.getElem?_eq_some_iff.1 h).1
 have HR : Hid (pkR ((L s).drop i) = (c.toNat : Int)) := by
  unfold Hid
  rw [hl]
  rfl
 have HO : Hid (oneP (c :: t) = if byteT c.toNat = [c] then some (c.toNat, t) else none) := by
  unfold Hid oneP
  dsimp only
  rw [if_neg hc]
 clear h
 go_enter Tryz.func166, Tryz.ntmps166
 go_wp2_with fail
 refine HP.out.mono ?_
 rintro e w1 ⟨rfl, hx, hb⟩
 rw [HR.out]
 have HX := Lib.hid (And.intro hx (PK.of_below hb (Nat.le_of_lt HG.out)))
 obtain ⟨c0, c1, c2⟩ := row3 hx
 clear hx hb HP HR HG
 have hcb : c.toNat < 256 := c.toNat_lt
 have hlen : t.length = s.size - (i + 1) := by
  have := congrArg List.length hl
  rw [List.length_drop, L_len, List.length_cons] at this
  omega
 have hx1 : ∀ h : i + 1 < s.size, t.head? = some (s[i + 1]'h) := by
  intro h
  have h2 := drop_cons s (i + 1) h
  have h3 : t = (L s).drop (i + 1) := by rw [← List.tail_drop, hl]; rfl
  rw [h3, h2]
  rfl
 go_upto_region 2 with fail
 go_cut [35] (fun v wx => v = .bool false ∧ Hid (PrsAt g s i dp wx) ∧ Hid (PK g w wx))
 case first =>
  by_cases h92 : c = 92
  ·subst h92
   have e1 : ((((92 : UInt8).toNat : Nat) : Int) == 92) = true := rfl
   by_cases h3 : 3 ≤ t.length
   ·have h4 : i + 1 < s.size := by omega
    have hne := fun h => hc ⟨rfl, h3, (hx1 h4).trans h⟩
    have e2 : decide ((i : Int) + 4 ≤ s.size) = true := decide_eq_true (by omega)
    have e7 : (0 : Int) ≤ (i : Int) + 1 := by omega
    have e8 : ((i : Int) + 1).toNat = i + 1 := by omega
    have e3 : IntKind.i64.wrap ((i : Int) + 4) = (i : Int) + 4 := IntWalk.i64_in _ (by omega)
    have e4 : IntKind.i64.wrap ((i : Int) + 1) = (i : Int) + 1 := IntWalk.i64_in _ (by omega)
    have e5 : (i : Int) + 1 < s.size := by omega
    have e6 : (((s[i + 1]'h4).toNat : Int) == 120) = false := by
     refine beq_false_of_ne (fun h => hne ?_)
     rw [show s[i + 1]'h4 = 120 from UInt8.toNat.inj (by have : (120 : UInt8).toNat = 120 := rfl; omega)]
    clear hne hx1 hlen
    go_quiet (fail)
    go_wp2_with fail
    go_meet
    exact ⟨rfl, HX.out.1, HX.out.2.trans ⟨below_drewN (Below.refl _ _) _, fun _ _ _ => rfl⟩⟩
   ·have e2 : decide ((i : Int) + 4 ≤ s.size) = false := decide_eq_false (by omega)
    have e3 : IntKind.i64.wrap ((i : Int) + 4) = (i : Int) + 4 := IntWalk.i64_in _ (by omega)
    clear hx1 hlen
    go_quiet (fail)
    go_wp2_with fail
    go_meet
    exact ⟨rfl, HX.out.1, HX.out.2.trans ⟨below_drewN (Below.refl _ _) _, fun _ _ _ => rfl⟩⟩
  ·have e1 : ((c.toNat : Int) == 92) = false := beq_false_of_ne (fun h => h92 (UInt8.toNat.inj (by have : (92 : UInt8).toNat = 92 := rfl; omega)))
   go_quiet (fail)
   go_wp2_with fail
   go_meet
   exact ⟨rfl, HX.out.1, HX.out.2.trans ⟨below_drewN (Below.refl _ _) _, fun _ _ _ => rfl⟩⟩
 case rest =>
  obtain ⟨rfl, H1, H2⟩ := hcut
  clear c0 c1 c2 hx1 hlen
  have HB := Lib.hid (byteP_any c.toNat (by omega))
  have h0 : ¬ (c.toNat : Int) < 0 := by omega
  go_upto_region 8 with fail
  go_cut [78] (fun v wx => v = .bool (decide (byteT c.toNat ≠ [c])) ∧ Hid (PrsAt g s i dp wx) ∧ Hid (PK g w wx))
  case first =>
   have hlt : decide ((c.toNat : Int) < 0) = false := decide_eq_false h0
   have hwr : IntKind.u8.wrap (c.toNat : Int) = (c.toNat : Int) := by
    simp [IntKind.wrap, IntKind.bits, IntKind.signed]
    omega
   have hcv : ∀ (wx : World) (b : Nat), wx.cell? ⟨b, 0, none⟩ = some (.int .u8 (c.toNat : Int)) → (convert 56 9 (.slice (some ⟨b, 0, none⟩) 1 1)).run Tryz.prog wx = .ok (.string ⟨#[c]⟩) wx := by
    intro wx b hb
    have h := run_convert_bytes_arg (P := Tryz.prog) wx 56 5 Tryz.underlying56 Tryz.underlying5 b 0 1 1 [(c.toNat : Int)] rfl (fun i hi => by
     obtain rfl : i = 0 := by simp at hi; omega
     simpa using hb) 9 Tryz.underlying9
    have e1 : strOfNums [(c.toNat : Int)] = (⟨#[c]⟩ : ByteArray) := by simp [strOfNums]
    rw [e1] at h
    exact h
   go_region_with ((go_at_call 131; refine (HB.out _).mono ?_; rintro e w2 ⟨⟨u, rfl, hu⟩, hb2⟩; have hk2 : ∀ b o, b < _ → w2.cell? ⟨b, o, none⟩ = _ := fun b o h => hb2.cell (p := ⟨b, o, none⟩) h))
   all_goals
    have HBW : Hid (Below wc.heap.size wc w2) := by
     first
     | exact (below_drewN (Below.refl _ _) 1).trans hb2
     | exact ((below_drewN (Below.refl _ _) 1).alloc (Nat.le_refl _) _).trans (hb2.mono (by simp))
    clear hcv hk2
    have hu := Lib.hid hu
    go_simp
    go_wp2_with fail
    go_meet
    refine ⟨?_, ?_, ?_⟩
    ·rw [toList_L, hu.out]
     by_cases h : byteT c.toNat = [c] <;> simp [h]
    ·first
     | exact H1.out.below HBW.out
     | exact H1.out.below (HBW.out.alloc (HBW.out.size) _)
    ·first
     | exact H2.out.trans (PK.of_below HBW.out (Nat.le_of_lt (Array.getElem?_eq_some_iff.1 H1.out).1))
     | exact H2.out.trans (PK.of_below (HBW.out.alloc (HBW.out.size) _) (Nat.le_of_lt (Array.getElem?_eq_some_iff.1 H1.out).1))
  case rest =>
   obtain ⟨rfl, H3, H4⟩ := hcut
   by_cases hbt : byteT c.toNat = [c]
   ·rw [decide_eq_false (fun h => h hbt)]
    have H5 := Lib.hid hbt
    obtain ⟨c0, c1, c2⟩ := row3 H3.out
    have hfz : wc.frozen? ⟨g, 1, none⟩ = false := Lib.frozen_of_heap H3.out 1
    clear hbt
    go_wp2_with fail
    go_ret
    rw [HO.out, if_pos H5.out]
    exact ⟨H4.out.trans (PK.setCell _ _ _ _), rfl, i + 1, by omega, by rw [← List.tail_drop, hl]; rfl, H3.out.setAt⟩
   ·rw [decide_eq_true hbt]
    have H5 := Lib.hid hbt
    clear hbt
    go_wp2_with fail
    rw [HO.out, if_neg H5.out]
    exact ⟨rfl, H4.out, ⟨_, rfl⟩⟩
theorem hexV_lt (b : UInt8) (n : Nat) (h : hexV b = some n) : n < 16 := by
 unfold hexV at h
 split at h
 ·cases h; omega
 split at h
 ·cases h; omega
 split at h
 ·cases h; omega
 ·cases h
theorem hexF_lt {l : List UInt8} {n : Nat} (hl : l.length = 2) (h : hexF 0 l = some n) : n < 256 := by
 match l, hl with
 | [a, b], _ =>
  rw [hexF_V] at h
  cases h1 : hexV a with
  | none => rw [h1] at h; cases h
  | some x =>
   cases h2 : hexV b with
   | none => rw [h1, h2] at h; cases h
   | some y =>
    rw [h1, h2] at h
    simp only [Option.some.injEq] at h
    have := hexV_lt a x h1
    have := hexV_lt b y h2
    omega
theorem one_esc (g : Nat) (s : ByteArray) (i dp : Nat) (t : List UInt8) (w : World) (h : PrsAt g s i dp w) (hi : i < s.size) (hs : s.size ≤ 1000000000) (hl : (L s).drop i = 92 :: t) (h3 : 3 ≤ t.length) (hx : t.head? = some 120) (he : EnvG g w) :
  Calls Tryz.prog 166 #[.pointer (some ⟨g, 0, none⟩)] w (OkO g w (oneP (92 :: t)) (fun n => .int .i64 (n : Int)) s dp) := by
 have HP := Lib.hid (peek_any g s i dp w h (Nat.le_of_lt hi))
 have HG := Lib.hid (Array.getElem?_eq_some_iff.1 h).1
 have HR : Hid (pkR ((L s).drop i) = 92) := by
  unfold Hid
  rw [hl]
  rfl
 have hlen : t.length = s.size - (i + 1) := by
  have := congrArg List.length hl
  rw [List.length_drop, L_len, List.length_cons] at this
  omega
 have h4 : i + 4 ≤ s.size := by omega
 have ht : t = (L s).drop (i + 1) := by rw [← List.tail_drop, hl]; rfl
 have HO : Hid (oneP (92 :: t) = match hexF 0 (L (s.extract (i + 2) (i + 4))) with | some n => some (n, t.drop 3) | none => none) := by
  unfold Hid oneP
  dsimp only
  rw [if_pos ⟨rfl, h3, hx⟩]
  match t, h3 with
  | x0 :: x1 :: x2 :: t', _ =>
   have e : L (s.extract (i + 2) (i + 4)) = [x1, x2] := by
    rw [L_extract, show i + 4 - (i + 2) = 2 by omega, show i + 2 = i + 1 + 1 by omega, ← List.drop_drop, ← ht]
    rfl
   rw [e, hexF_V]
   simp only [List.getD_cons_succ, List.getD_cons_zero]
   cases hexV x1 <;> cases hexV x2 <;> rfl
 have HS2 : Hid ((s.extract (i + 2) (i + 4)).size = 2) := by
  unfold Hid
  simp
  omega
 have HE := Lib.hid he
 have e6 : (((s[i + 1]'(by omega)).toNat : Int) == 120) = true := by
  have h2 := drop_cons s (i + 1) (by omega)
  rw [ht, h2] at hx
  simp only [List.head?_cons, Option.some.injEq] at hx
  rw [hx]
  rfl
 have HD3 : Hid (t.drop 3 = (L s).drop (i + 4)) := by unfold Hid; rw [ht, List.drop_drop]
 clear h he hx ht h3 hl hlen
 go_enter Tryz.func166, Tryz.ntmps166
 go_wp2_with fail
 refine HP.out.mono ?_
 rintro e w1 ⟨rfl, hx, hb⟩
 rw [HR.out]
 have HX := Lib.hid (And.intro hx (PK.of_below hb (Nat.le_of_lt HG.out)))
 obtain ⟨c0, c1, c2⟩ := row3 hx
 replace HE := Lib.hid (HE.out.below hb)
 clear hx hb HP HR HG
 have e1 : ((92 : Int) == 92) = true := rfl
 have e2 : decide ((i : Int) + 4 ≤ s.size) = true := decide_eq_true (by omega)
 have e3 : IntKind.i64.wrap ((i : Int) + 4) = (i : Int) + 4 := IntWalk.i64_in _ (by omega)
 have e4 : IntKind.i64.wrap ((i : Int) + 1) = (i : Int) + 1 := IntWalk.i64_in _ (by omega)
 have e5 : (i : Int) + 1 < s.size := by omega
 have e7 : (0 : Int) ≤ (i : Int) + 1 := by omega
 have e8 : ((i : Int) + 1).toNat = i + 1 := by omega
 go_upto_region 2 with fail
 go_cut [35] (fun v wx => v = .bool true ∧ Hid (PrsAt g s i dp wx) ∧ Hid (PK g w wx) ∧ Hid (EnvG g wx))
 case first =>
  go_quiet (fail)
  go_wp2_with fail
  go_meet
  exact ⟨rfl, HX.out.1, HX.out.2.trans ⟨below_drewN (Below.refl _ _) _, fun _ _ _ => rfl⟩, HE.out.below (below_drewN (Below.refl _ _) _)⟩
 case rest =>
 obtain ⟨rfl, H1, H2, H3⟩ := hcut
 clear e2 e3 e4 e5 e6 e7 e8 c0 c1 c2 HX HE
 obtain ⟨c0, c1, c2⟩ := row3 H1.out
 have q1 : (i : Int) + 2 ≤ (i : Int) + 4 := by omega
 have q2 : (i : Int) + 4 ≤ s.size := by omega
 have q3 : IntKind.i64.wrap ((i : Int) + 4) = (i : Int) + 4 := IntWalk.i64_in _ (by omega)
 have q4 : IntKind.i64.wrap ((i : Int) + 2) = (i : Int) + 2 := IntWalk.i64_in _ (by omega)
 have q5 : (0 : Int) ≤ (i : Int) + 2 := by omega
 have q6 : (0 : Int) ≤ (i : Int) + 4 := by omega
 have q7 : ((i : Int) + 2).toNat = i + 2 := by omega
 have q8 : ((i : Int) + 4).toNat = i + 4 := by omega
 go_upto_region 3 with fail
 have hgl := (Array.getElem?_eq_some_iff.1 H1.out).1
 have HGL := Lib.hid hgl
 have HHO := HO.out
 cases hv : hexF 0 (L (s.extract (i + 2) (i + 4))) with
 | none =>
  rw [hv] at HHO
  have HN := Lib.hid (fun w' => ParseUint_no (s.extract (i + 2) (i + 4)) (by rw [HS2.out]; omega) (by rw [HS2.out]; omega) hv w')
  have HOn : Hid (oneP (92 :: t) = none) := HHO
  clear HHO hv HO
  go_region_held3 (fun w' => w'.cell? ⟨g, 0, none⟩ = some (.string s) ∧ w'.cell? ⟨g, 1, none⟩ = some (.int .i64 (i : Int)))
   (first
    | go_keep
    | exact ⟨(hb5.cell (p := ⟨g, 0, none⟩) hgl).trans (by assumption), (hb5.cell (p := ⟨g, 1, none⟩) hgl).trans (by assumption)⟩)
   (first
    | (go_at_call 178; refine (HN.out _ (H3.out.below (below_drewN (Below.refl _ _) 1)).env).mono ?_; rintro e w4 ⟨⟨NN, rfl⟩, hb5⟩))
  have HB5 := Lib.hid ((below_drewN (Below.refl wc.heap.size wc) 1).trans hb5)
  clear hb5 HN
  go_wp2_with fail
  rw [HOn.out]
  exact ⟨rfl, H2.out.trans (PK.of_below HB5.out (Nat.le_of_lt HGL.out)), ⟨_, rfl⟩⟩
 | some n =>
  rw [hv] at HHO
  have hn : n < 256 := hexF_lt (by rw [L_len]; exact HS2.out) hv
  have HN := Lib.hid (fun w' => ParseUint_ok (s.extract (i + 2) (i + 4)) (by rw [HS2.out]; omega) (by rw [HS2.out]; omega) n hv w')
  have HOn : Hid (oneP (92 :: t) = some (n, t.drop 3)) := HHO
  clear HHO hv HO
  go_region_held3 (fun w' => w'.cell? ⟨g, 0, none⟩ = some (.string s) ∧ w'.cell? ⟨g, 1, none⟩ = some (.int .i64 (i : Int)))
   (first
    | go_keep
    | exact ⟨(hb5.cell (p := ⟨g, 0, none⟩) hgl).trans (by assumption), (hb5.cell (p := ⟨g, 1, none⟩) hgl).trans (by assumption)⟩)
   (first
    | (go_at_call 178; refine (HN.out _).mono ?_; rintro e w4 ⟨rfl, hb5⟩))
  have HB5 := Lib.hid ((below_drewN (Below.refl wc.heap.size wc) 1).trans hb5)
  have HX4 := Lib.hid (H1.out.below HB5.out)
  clear hb5 HN c0 c1 c2
  obtain ⟨c0, c1, c2⟩ := row3 HX4.out
  have hfz : w4.frozen? ⟨g, 1, none⟩ = false := Lib.frozen_of_heap HX4.out 1
  have hni : (n : Int) ≤ 255 := by omega
  go_wp2_with fail
  go_ret
  rw [HOn.out]
  exact ⟨H2.out.trans ((PK.of_below HB5.out (Nat.le_of_lt HGL.out)).trans (PK.setCell _ _ _ _)), rfl, i + 4, by omega, HD3.out, heap_setCell_same w4 g 1 _ _ (.int .i64 ((i : Int) + 4)) HX4.out⟩
theorem one_l (g : Nat) (s : ByteArray) (l : List UInt8) (dp : Nat) (w : World) (h : PrsL g s l dp w) (hs : s.size ≤ 1000000000) (he : EnvG g w) :
  Calls Tryz.prog 166 #[.pointer (some ⟨g, 0, none⟩)] w (OkO g w (oneP l) (fun n => .int .i64 (n : Int)) s dp) := by
 obtain ⟨i, h1, rfl, h3⟩ := h
 by_cases hlt : i < s.size
 ·cases hl : (L s).drop i with
  | nil =>
   have := congrArg List.length hl
   rw [List.length_drop, L_len, List.length_nil] at this
   omega
  | cons c t =>
   by_cases hc : c = 92 ∧ 3 ≤ t.length ∧ t.head? = some 120
   ·obtain ⟨rfl, h4, h5⟩ := hc
    exact one_esc g s i dp t w h3 hlt hs hl h4 h5 he
   ·exact one_chr g s i dp c t w h3 hlt hs hl hc
 ·obtain rfl : i = s.size := by omega
  rw [L_drop_nil s s.size (Nat.le_refl _)]
  exact one_end g s dp w h3
end Go.Proofs.YtpkecepelcppiaaGreatDoor

namespace Go.Proofs.YtpkecepelcppiaaGreatDoor
open Go.RowKit Go.Shelf
set_option maxHeartbeats 4000000
set_option maxRecDepth 100000

def OkQ (g : Nat) (w : World) (o : Option (RX × List UInt8)) (s : ByteArray) (dp : Nat) (e : Ending) (w' : World) : Prop :=
 PK g w w' ∧ match o with
  | some x => ∃ c, e = .returned (aggP c) ∧ RdQ (fun b => w.heap.size ≤ b) w' c x.1 ∧ PrsL g s x.2 dp w'
  | none => Wrg e
theorem OkQ.no {g : Nat} {w w' : World} {u : Value} {s : ByteArray} {dp : Nat} (h : PK g w w') : OkQ g w none s dp (.panicked [{ v := .iface 97 u, recovered := false }]) w' := ⟨h, ⟨u, rfl⟩⟩
theorem OkQ.yes {g : Nat} {w w' : World} {p : RX} {r : List UInt8} {c : PC} {s : ByteArray} {dp : Nat} (h : PK g w w') (hc : RdQ (fun b => w.heap.size ≤ b) w' c p) (hr : PrsL g s r dp w') : OkQ g w (some (p, r)) s dp (.returned (aggP c)) w' := ⟨h, c, rfl, hc, hr⟩
theorem PK.top {g b : Nat} {w w1 w2 : World} (h : PK g w w1) (hb : Below b w1 w2) (h1 : w.heap.size ≤ b) (hg : g < b) : PK g w w2 :=
 ⟨h.bel.trans (hb.mono (Nat.le_of_lt hg)), fun x hx hl => (hb.block x (Nat.lt_of_lt_of_le hl h1)).trans (h.keep x hx hl)⟩
theorem PrsL.keep {g : Nat} {s : ByteArray} {l : List UInt8} {dp : Nat} {w w' : World} (h : PrsL g s l dp w) (hb : w'.heap[g]? = w.heap[g]?) : PrsL g s l dp w' := by
 obtain ⟨i, h1, h2, h3⟩ := h
 exact ⟨i, h1, h2, hb.trans h3⟩
def BoxP (b : Nat) (c : PC) (w : World) : Prop := w.heap[b]? = some (.cells c.cells.toArray 45 (0, 0))
theorem BoxP.cells {b : Nat} {c : PC} {w : World} (h : BoxP b c w) :
  w.cell? ⟨b, 0, none⟩ = some (.int .i64 c.op) ∧ w.cell? ⟨b, 1, none⟩ = some (.int .i64 c.lo) ∧ w.cell? ⟨b, 2, none⟩ = some (.int .i64 c.hi) ∧ w.cell? ⟨b, 3, none⟩ = some (.int .i64 c.mn) ∧ w.cell? ⟨b, 4, none⟩ = some (.int .i64 c.mx) ∧ w.cell? ⟨b, 5, none⟩ = some c.a := row6 h
theorem BoxP.free {b : Nat} {c : PC} {w : World} (h : BoxP b c w) :
  w.frozen? ⟨b, 0, none⟩ = false ∧ w.frozen? ⟨b, 1, none⟩ = false ∧ w.frozen? ⟨b, 2, none⟩ = false ∧ w.frozen? ⟨b, 3, none⟩ = false ∧ w.frozen? ⟨b, 4, none⟩ = false ∧ w.frozen? ⟨b, 5, none⟩ = false :=
 ⟨Lib.frozen_of_heap h 0, Lib.frozen_of_heap h 1, Lib.frozen_of_heap h 2, Lib.frozen_of_heap h 3, Lib.frozen_of_heap h 4, Lib.frozen_of_heap h 5⟩
theorem BoxP.lt {b : Nat} {c : PC} {w : World} (h : BoxP b c w) : b < w.heap.size := (Array.getElem?_eq_some_iff.1 h).1
theorem BoxP.below {b : Nat} {c : PC} {w w' : World} (h : BoxP b c w) (hb : Below w.heap.size w w') : BoxP b c w' := (hb.block b h.lt).trans h
theorem BoxP.pk {g b : Nat} {c : PC} {w w' : World} (h : BoxP b c w) (hk : PK g w w') (hg : b ≠ g) : BoxP b c w' := (hk.keep b hg h.lt).trans h
theorem BoxP.set {b : Nat} {c d : PC} {w w4 : World} (h : BoxP b c w)
  (he : ((((((w.setCell ⟨b, 0, none⟩ (.int .i64 d.op)).setCell ⟨b, 1, none⟩ (.int .i64 d.lo)).setCell ⟨b, 2, none⟩ (.int .i64 d.hi)).setCell ⟨b, 3, none⟩ (.int .i64 d.mn)).setCell ⟨b, 4, none⟩ (.int .i64 d.mx)).setCell ⟨b, 5, none⟩ d.a) = w4) : BoxP b d w4 ∧ Below b w w4 := set6 h _ _ _ _ _ _ he
theorem RdQ.top {N : Nat → Prop} {b : Nat} {c : PC} {p : RX} {w w' : World} (h : RdQ N w c p) (hb : Below b w w') (hN : ∀ x, N x → x ≠ b) (hk : ∀ x, b < x → x < w.heap.size → w'.heap[x]? = w.heap[x]?) : RdQ N w' c p :=
 h.keep (fun x hx hl => by
  rcases Nat.lt_trichotomy x b with h1 | h1 | h1
  ·exact hb.block x h1
  ·exact absurd h1 (hN x hx)
  ·exact hk x h1 hl)
theorem set6_other {w w4 : World} {b : Nat} {x0 x1 x2 x3 x4 x5 : Value} (he : ((((((w.setCell ⟨b, 0, none⟩ x0).setCell ⟨b, 1, none⟩ x1).setCell ⟨b, 2, none⟩ x2).setCell ⟨b, 3, none⟩ x3).setCell ⟨b, 4, none⟩ x4).setCell ⟨b, 5, none⟩ x5) = w4) : ∀ x, x ≠ b → w4.heap[x]? = w.heap[x]? := by
 subst he
 intro x hx
 repeat rw [Below.heap_setCell _ _ _ _ (by show x ≠ b; exact hx)]
def AtS (g : Nat) (s : ByteArray) (l : List UInt8) (dp : Nat) (w0 w : World) : Prop := PrsL g s l dp w ∧ EnvG g w ∧ PK g w0 w ∧ BoxP w0.heap.size ⟨0, 0, 0, 0, 0, .slice none 0 0⟩ w ∧ g < w0.heap.size
theorem AtS.go {g : Nat} {s : ByteArray} {l l' : List UInt8} {dp dp' : Nat} {w0 w w' : World} (h : AtS g s l dp w0 w) (hk : PK g w w') (hp : PrsL g s l' dp' w') : AtS g s l' dp' w0 w' :=
 ⟨hp, h.2.1.pk hk, h.2.2.1.trans hk, h.2.2.2.1.pk hk (by have := h.2.2.2.2; omega), h.2.2.2.2⟩
theorem AtS.below {g : Nat} {s : ByteArray} {l : List UInt8} {dp : Nat} {w0 w w' : World} (h : AtS g s l dp w0 w) (hb : Below w.heap.size w w') : AtS g s l dp w0 w' :=
 h.go (PK.of_below hb (Nat.le_of_lt h.1.lt)) (h.1.below hb)
theorem AtS.start {g : Nat} {s : ByteArray} {l : List UInt8} {dp : Nat} {w : World} (h : PrsL g s l dp w) (he : EnvG g w) :
  AtS g s l dp w (w.alloc (.cells #[.int .i64 0, .int .i64 0, .int .i64 0, .int .i64 0, .int .i64 0, .slice none 0 0] 45)) := by
 have hb : Below w.heap.size w (w.alloc (.cells #[.int .i64 0, .int .i64 0, .int .i64 0, .int .i64 0, .int .i64 0, .slice none 0 0] 45)) := (Below.refl _ _).alloc (Nat.le_refl _) _
 exact ⟨h.below hb, he.below hb, PK.of_below hb (Nat.le_of_lt h.lt), heap_alloc_new w _, h.lt⟩
theorem AtS.fin {g : Nat} {s : ByteArray} {l : List UInt8} {dp : Nat} {w0 w w4 : World} {d : PC} {p : RX} (h : AtS g s l dp w0 w) (hd : RdQ (fun b => w0.heap.size < b) w d p)
  (he : ((((((w.setCell ⟨w0.heap.size, 0, none⟩ (.int .i64 d.op)).setCell ⟨w0.heap.size, 1, none⟩ (.int .i64 d.lo)).setCell ⟨w0.heap.size, 2, none⟩ (.int .i64 d.hi)).setCell ⟨w0.heap.size, 3, none⟩ (.int .i64 d.mn)).setCell ⟨w0.heap.size, 4, none⟩ (.int .i64 d.mx)).setCell ⟨w0.heap.size, 5, none⟩ d.a) = w4) :
  BoxP w0.heap.size d w4 ∧ OkQ g w0 (some (p, l)) s dp (.returned (aggP d)) w4 := by
 obtain ⟨h1, h2, h3, h4, h5⟩ := h
 obtain ⟨b1, b2⟩ := h4.set he
 have ho := set6_other he
 refine ⟨b1, OkQ.yes (h3.top b2 (Nat.le_refl _) h5) ?_ (h1.keep (ho g (by omega)))⟩
 exact (hd.keep (fun x hx _ => ho x (by omega))).mono (fun x hx _ => Nat.le_of_lt hx)
theorem BoxP.zero (w : World) : BoxP w.heap.size ⟨0, 0, 0, 0, 0, .slice none 0 0⟩ (w.alloc (.cells #[.int .i64 0, .int .i64 0, .int .i64 0, .int .i64 0, .int .i64 0, .slice none 0 0] 45)) := heap_alloc_new w _

def subT (sub : Option (List UInt8 → Option (RX × List UInt8))) (t : List UInt8) : Option (RX × List UInt8) := match sub with
 | none => none
 | some f => f t
theorem atomP_par (sub : Option (List UInt8 → Option (RX × List UInt8))) (t : List UInt8) : atomP pgP sub (40 :: t) = if tkR 41 t then some (.mk 1 0 0 0 0 [], t.tail) else (subT sub t).bind fun x => if tkR 41 x.2 then some (x.1, x.2.tail) else none := by
 have h0 : (t.head? = some 41) = (tkR 41 t = true) := by unfold tkR; simp
 unfold atomP
 dsimp only
 rw [if_pos rfl]
 by_cases h : tkR 41 t = true
 ·rw [if_pos h, if_pos (h0 ▸ h), List.drop_one]
 ·rw [if_neg h, if_neg (h0 ▸ h)]
  cases sub with
  | none => rfl
  | some f =>
   show (match f t with | none => none | some (p, r) => (needP 41 r).map fun r' => (p, r')) = (f t).bind _
   cases f t with
   | none => rfl
   | some x =>
    obtain ⟨p, r⟩ := x
    show (needP 41 r).map _ = if tkR 41 r then _ else _
    rw [needP_tk]
    split <;> rfl
theorem tailIf_t (l : List UInt8) : tailIf true l = l.tail := rfl
theorem tailIf_f (l : List UInt8) : tailIf false l = l := rfl
theorem AtS.dec {g : Nat} {s : ByteArray} {l : List UInt8} {dp : Nat} {w0 w w' : World} (h : AtS g s l (dp + 1) w0 w) (he : w.setCell ⟨g, 2, none⟩ (.int .i64 (dp : Int)) = w') : AtS g s l dp w0 w' ∧ PK g w w' := by
 have hk : PK g w w' := he ▸ PK.setCell g 2 w _
 refine ⟨h.go hk ?_, hk⟩
 obtain ⟨i, h1, h2, h3⟩ := h.1
 exact ⟨i, h1, h2, he ▸ heap_setCell_same w g 2 _ _ (.int .i64 (dp : Int)) h3⟩
theorem atom_paren (g : Nat) (s : ByteArray) (t : List UInt8) (dp : Nat) (w : World) (sub : Option (List UInt8 → Option (RX × List UInt8)))
  (hsub : (sub = none ∧ dp = 96) ∨ ∃ f, sub = some f ∧ dp + 1 ≤ 96 ∧ ∀ l w, PrsL g s l (dp + 1) w → EnvG g w → Calls Tryz.prog 66 #[.pointer (some ⟨g, 0, none⟩), .int .i64 1] w (OkQ g w (f l) s (dp + 1)))
  (h : PrsL g s (40 :: t) dp w) (hs : s.size ≤ 1000000000) (he : EnvG g w) :
  Calls Tryz.prog 151 #[.pointer (some ⟨g, 0, none⟩)] w (OkQ g w (atomP pgP sub (40 :: t)) s dp) := by
 have HS := Lib.hid hs
 have HSUB := Lib.hid hsub
 have HA0 := Lib.hid (AtS.start h he)
 have HO := Lib.hid (atomP_par sub t)
 generalize atomP pgP sub (40 :: t) = O at *
 clear hs hsub h he
 go_enter Tryz.func151, Tryz.ntmps151
 go_upto_region 1 with fail
 generalize World.alloc w _ = w1 at *
 go_wp2_with fail
 refine (take_l 40 g s _ dp w1 HA0.out.1 HS.out).mono ?_
 rintro e w2 ⟨rfl, hx, hk⟩
 have HA := Lib.hid (HA0.out.go hk hx)
 replace HA : Hid (AtS g s t dp w w2) := HA.out
 rw [show tkR 40 (40 :: t) = true from by simp [tkR]]
 clear hx hk HA0
 go_wp2_with fail
 refine (take_l 41 g s _ dp w2 HA.out.1 HS.out).mono ?_
 rintro e w3 ⟨rfl, hx, hk⟩
 replace HA := Lib.hid (HA.out.go hk hx)
 clear hx hk
 cases htk : tkR 41 t with
 | true =>
  rw [htk] at HA
  replace HO : Hid (O = some (.mk 1 0 0 0 0 [], t.tail)) := by
   rw [htk, if_pos rfl] at HO
   exact HO
  rw [tailIf_t] at HA
  clear htk HSUB
  go_wp2_with fail
  refine (empty_any w3).mono ?_
  rintro e w4 ⟨rfl, hb⟩
  replace HA := Lib.hid (HA.out.below hb)
  obtain ⟨k0, k1, k2, k3, k4, k5⟩ := HA.out.2.2.2.1.free
  obtain ⟨r0, r1, r2, r3, r4, r5⟩ := HA.out.2.2.2.1.cells
  simp only at r0 r1 r2 r3 r4 r5
  clear hb
  simp only [aggP, zeroP]
  go_wp2_with fail
  generalize hW : World.setCell _ _ _ = w5
  obtain ⟨hbx, hok⟩ := HA.out.fin (d := zeroP 1) (p := .mk 1 0 0 0 0 []) (zero_rd _ 1 _) hW
  obtain ⟨s0, s1, s2, s3, s4, s5⟩ := hbx.cells
  refine bodyPost_ret (v := aggP (zeroP 1)) (by simp only [zeroP] at s0 s1 s2 s3 s4 s5; simp [results, Tryz.results151, go_sem, zeroP, s0, s1, s2, s3, s4, s5]) rfl ?_
  rw [HO.out]
  exact hok
 | false =>
  rw [htk, tailIf_f] at HA
  replace HO : Hid (O = (subT sub t).bind fun x => if tkR 41 x.2 then some (x.1, x.2.tail) else none) := by
   rw [htk, if_neg (by simp)] at HO
   exact HO
  clear htk
  go_wp2_with fail
  refine (enter_l g s t dp w3 HA.out.1 (by rcases HSUB.out with h | ⟨f, h1, h2, h3⟩ <;> omega)).mono ?_
  rintro e w4 ⟨hk, hx⟩
  rcases HSUB.out with ⟨rfl, hd⟩ | ⟨f, rfl, hd, hsub⟩
  ·rw [decide_eq_false (by omega), if_neg (by simp)] at hx
   obtain ⟨v, rfl⟩ := hx
   replace HA := Lib.hid (HA.out.2.2.1.trans hk)
   clear hk hd HSUB
   go_wp2_with fail
   rw [HO.out]
   exact ⟨rfl, HA.out, ⟨_, rfl⟩⟩
  ·rw [decide_eq_true (by omega), if_pos rfl] at hx
   obtain ⟨rfl, hx⟩ := hx
   replace HA := Lib.hid (HA.out.go hk hx)
   have HC := Lib.hid (hsub t w4 HA.out.1 HA.out.2.1)
   clear hk hx hsub HSUB
   go_wp2_with fail
   refine HC.out.mono ?_
   rintro e w5 ⟨hk, hx⟩
   cases hft : f t with
   | none =>
    rw [hft] at hx
    obtain ⟨v, rfl⟩ := hx
    replace HA := Lib.hid (HA.out.2.2.1.trans hk)
    have HOn : Hid (O = none) := by unfold Hid; rw [HO.out]; show (f t).bind _ = none; rw [hft]; rfl
    clear hk hft HO
    go_wp2_with fail
    rw [HOn.out]
    exact ⟨rfl, HA.out, ⟨_, rfl⟩⟩
   | some x =>
    obtain ⟨p, r⟩ := x
    rw [hft] at hx
    obtain ⟨c, rfl, hc, hx⟩ := hx
    have hsz := HA.out.2.2.2.1.lt
    replace HA := Lib.hid (HA.out.go hk hx)
    have HOn : Hid (O = if tkR 41 r then some (p, r.tail) else none) := by unfold Hid; rw [HO.out]; show (f t).bind _ = _; rw [hft]; rfl
    have HC2 := Lib.hid (hc.mono (M := fun b => w.heap.size < b ∧ b ≠ g) (fun b h1 h2 => ⟨by omega, by have := HA.out.2.2.2.2; omega⟩))
    clear hk hft HO hc hx HC hsz
    dsimp only at HA HC2
    obtain ⟨qa, qcap, hqa⟩ := HC2.out.rd.forms
    generalize p.args.length = pn at *
    obtain ⟨q0, q1, q2, q3, q4, q5⟩ := c
    simp only at hqa
    subst hqa
    simp only [aggP]
    go_wp2_with fail
    generalize hW : World.alloc w5 _ = w6
    obtain ⟨ha, -, -, hb⟩ := alloc_of hW
    have HB := Lib.hid (show BoxP w5.heap.size ⟨q0, q1, q2, q3, q4, .slice qa pn qcap⟩ w6 from ha)
    have hne : w5.heap.size ≠ g ∧ w.heap.size ≠ w5.heap.size := by
     have h1 := HA.out.1.lt
     have h2 := HA.out.2.2.2.1.lt
     omega
    have HNE := Lib.hid hne
    replace HA := Lib.hid (HA.out.below hb)
    replace HC2 := Lib.hid (HC2.out.stay hb)
    clear hW ha hb hne
    refine (need_l 41 g s r (dp + 1) w6 HA.out.1 HS.out).mono ?_
    rintro e w7 ⟨hk, hx⟩
    cases htk : tkR 41 r with
    | false =>
     rw [htk, if_neg (by simp)] at hx
     obtain ⟨v, rfl⟩ := hx
     rw [htk, if_neg (by simp)] at HOn
     replace HA := Lib.hid (HA.out.2.2.1.trans hk)
     clear hk htk
     go_wp2_with fail
     rw [HOn.out]
     exact ⟨rfl, HA.out, ⟨_, rfl⟩⟩
    | true =>
     rw [htk, if_pos rfl] at hx
     obtain ⟨rfl, hx⟩ := hx
     rw [htk, if_pos rfl] at HOn
     replace HA := Lib.hid (HA.out.go hk hx)
     replace HC2 := Lib.hid (HC2.out.keep (w' := w7) (fun b hb hl => hk.keep b hb.2 hl))
     replace HB := Lib.hid (HB.out.pk hk HNE.out.1)
     clear hk hx htk
     obtain ⟨c2, hfz⟩ : w7.cell? ⟨g, 2, none⟩ = some (.int .i64 ((dp : Int) + 1)) ∧ w7.frozen? ⟨g, 2, none⟩ = false := by
      obtain ⟨i, h1, h2, h3⟩ := HA.out.1
      exact ⟨(row3 h3).2.2, Lib.frozen_of_heap h3 2⟩
     have hdp : dp ≤ 1000 := by omega
     have HDP := Lib.hid hdp
     go_upto_region 8 with fail
     generalize hW : World.setCell w7 _ _ = w8
     obtain ⟨ha, hk⟩ := HA.out.dec hW
     replace HA := Lib.hid ha
     replace HB := Lib.hid (HB.out.pk hk HNE.out.1)
     replace HC2 := Lib.hid (HC2.out.keep (w' := w8) (fun b hb hl => hk.keep b hb.2 hl))
     clear hW ha hk c2 hfz
     obtain ⟨k0, k1, k2, k3, k4, k5⟩ := HA.out.2.2.2.1.free
     obtain ⟨r0, r1, r2, r3, r4, r5⟩ := HA.out.2.2.2.1.cells
     obtain ⟨t0, t1, t2, t3, t4, t5⟩ := HB.out.cells
     simp only at r0 r1 r2 r3 r4 r5 t0 t1 t2 t3 t4 t5
     go_wp2_with fail
     generalize hW : World.setCell _ _ _ = w9
     obtain ⟨hbx, hok⟩ := HA.out.fin (d := ⟨q0, q1, q2, q3, q4, .slice qa pn qcap⟩) (HC2.out.mono (fun b h _ => h.1)) hW
     obtain ⟨s0, s1, s2, s3, s4, s5⟩ := hbx.cells
     refine bodyPost_ret (v := aggP ⟨q0, q1, q2, q3, q4, .slice qa pn qcap⟩) (by simp only at s0 s1 s2 s3 s4 s5; simp [results, Tryz.results151, go_sem, s0, s1, s2, s3, s4, s5]) rfl ?_
     rw [HOn.out]
     exact hok
theorem atomP_sq (sub : Option (List UInt8 → Option (RX × List UInt8))) (t : List UInt8) : atomP pgP sub (91 :: t) = if tkR 93 t then some (.mk 0 0 0 0 0 [], t.tail) else
  (oneP t).bind fun x => if tkR 45 x.2 then (oneP x.2.tail).bind fun y => if tkR 93 y.2 then some (rngR x.1 y.1, y.2.tail) else none else none := by
 have h0 : (t.head? = some 93) = (tkR 93 t = true) := by unfold tkR; simp
 unfold atomP
 dsimp only
 rw [if_neg (by decide), if_pos rfl]
 by_cases h : tkR 93 t = true
 ·rw [if_pos h, if_pos (h0 ▸ h), List.drop_one]
 ·rw [if_neg h, if_neg (h0 ▸ h)]
  show (match oneP t with | none => none | some (lo, t1) => _) = _
  cases oneP t with
  | none => rfl
  | some x =>
   obtain ⟨lo, t1⟩ := x
   show (match needP 45 t1 with | none => none | some t2 => _) = if tkR 45 t1 then _ else none
   rw [needP_tk]
   by_cases h1 : tkR 45 t1 = true
   ·rw [if_pos h1, if_pos h1]
    show (match oneP t1.tail with | none => none | some (hi, t3) => _) = (oneP t1.tail).bind _
    cases oneP t1.tail with
    | none => rfl
    | some y =>
     obtain ⟨hi, t3⟩ := y
     show (needP 93 t3).map _ = if tkR 93 t3 then _ else none
     rw [needP_tk]
     split <;> rfl
   ·rw [if_neg h1, if_neg h1]
theorem atomP_dot (sub : Option (List UInt8 → Option (RX × List UInt8))) (t : List UInt8) : atomP pgP sub (46 :: t) = some (rngR 0 255, t) := rfl
theorem atomP_chr (sub : Option (List UInt8 → Option (RX × List UInt8))) (l : List UInt8) (h1 : tkR 40 l = false) (h2 : tkR 91 l = false) (h3 : tkR 46 l = false) : atomP pgP sub l = (oneP l).map fun x => (rngR x.1 x.1, x.2) := by
 cases l with
 | nil => rfl
 | cons c t =>
  simp only [tkR, List.head?_cons, beq_eq_false_iff_ne, ne_eq, Option.some.injEq] at h1 h2 h3
  unfold atomP
  dsimp only
  rw [if_neg h1, if_neg h2, if_neg h3]
  rfl
end Go.Proofs.YtpkecepelcppiaaGreatDoor

namespace Go.Proofs.YtpkecepelcppiaaGreatDoor
open Go.RowKit Go.Shelf
set_option maxHeartbeats 4000000
set_option maxRecDepth 100000

theorem rng_rd (N : Nat → Prop) (lo hi : Nat) (w : World) : RdQ N w ⟨2, lo, hi, 0, 0, .slice none 0 0⟩ (rngR lo hi) :=
 .mk 2 lo hi 0 0 [] _ (fun _ => zeroP 0) SlX.nil (fun h => absurd h (Nat.lt_irrefl _)) (fun _ h => absurd h (Nat.not_lt_zero _))
theorem AtS.own {g b : Nat} {s : ByteArray} {l : List UInt8} {dp : Nat} {w0 w w' : World} (h : AtS g s l dp w0 w) (hb : Below b w w') (ho : ∀ x, x ≠ b → w'.heap[x]? = w.heap[x]?) (h1 : w0.heap.size < b) : AtS g s l dp w0 w' := by
 obtain ⟨a1, ⟨v, a2, a3, a4⟩, a5, a6, a7⟩ := h
 exact ⟨a1.keep (ho g (by omega)), ⟨v, a2, a3, a4.trans (hb.mono (by omega))⟩, a5.top hb (by omega) (by omega), (ho _ (by omega)).trans a6, a7⟩
theorem atom_dot (g : Nat) (s : ByteArray) (t : List UInt8) (dp : Nat) (w : World) (h : PrsL g s (46 :: t) dp w) (hs : s.size ≤ 1000000000) (he : EnvG g w) :
  Calls Tryz.prog 151 #[.pointer (some ⟨g, 0, none⟩)] w (OkQ g w (some (rngR 0 255, t)) s dp) := by
 have HS := Lib.hid hs
 have HA0 := Lib.hid (AtS.start h he)
 clear hs h he
 go_enter Tryz.func151, Tryz.ntmps151
 go_upto_region 1 with fail
 generalize World.alloc w _ = w1 at *
 go_wp2_with fail
 refine (take_l 40 g s _ dp w1 HA0.out.1 HS.out).mono ?_
 rintro e w2 ⟨rfl, hx, hk⟩
 rw [show tkR 40 (46 :: t) = false from by simp [tkR], tailIf_f] at *
 have HA := Lib.hid (HA0.out.go hk hx)
 clear hx hk HA0
 go_wp2_with fail
 refine (take_l 91 g s _ dp w2 HA.out.1 HS.out).mono ?_
 rintro e w3 ⟨rfl, hx, hk⟩
 rw [show tkR 91 (46 :: t) = false from by simp [tkR], tailIf_f] at *
 replace HA := Lib.hid (HA.out.go hk hx)
 clear hx hk
 go_wp2_with fail
 refine (take_l 46 g s _ dp w3 HA.out.1 HS.out).mono ?_
 rintro e w4 ⟨rfl, hx, hk⟩
 rw [show tkR 46 (46 :: t) = true from by simp [tkR], tailIf_t, List.tail_cons] at *
 replace HA := Lib.hid (HA.out.go hk hx)
 clear hx hk
 obtain ⟨k0, k1, k2, k3, k4, k5⟩ := HA.out.2.2.2.1.free
 obtain ⟨r0, r1, r2, r3, r4, r5⟩ := HA.out.2.2.2.1.cells
 simp only at r0 r1 r2 r3 r4 r5
 go_wp2_with fail
 generalize hW : World.setCell _ _ _ = w9
 obtain ⟨hbx, hok⟩ := HA.out.fin (d := ⟨2, 0, 255, 0, 0, .slice none 0 0⟩) (rng_rd _ 0 255 _) hW
 obtain ⟨s0, s1, s2, s3, s4, s5⟩ := hbx.cells
 exact bodyPost_ret (v := aggP ⟨2, 0, 255, 0, 0, .slice none 0 0⟩) (by simp only at s0 s1 s2 s3 s4 s5; simp [results, Tryz.results151, go_sem, s0, s1, s2, s3, s4, s5]) rfl hok
theorem atom_chr (g : Nat) (s : ByteArray) (l : List UInt8) (dp : Nat) (w : World) (h1 : tkR 40 l = false) (h2 : tkR 91 l = false) (h3 : tkR 46 l = false) (h : PrsL g s l dp w) (hs : s.size ≤ 1000000000) (he : EnvG g w) :
  Calls Tryz.prog 151 #[.pointer (some ⟨g, 0, none⟩)] w (OkQ g w ((oneP l).map fun x => (rngR x.1 x.1, x.2)) s dp) := by
 have HS := Lib.hid hs
 have HA0 := Lib.hid (AtS.start h he)
 have H1 := Lib.hid h1
 have H2 := Lib.hid h2
 have H3 := Lib.hid h3
 obtain ⟨O, hO⟩ : ∃ O, O = (oneP l).map fun x => (rngR x.1 x.1, x.2) := ⟨_, rfl⟩
 rw [← hO]
 have HO := Lib.hid hO
 clear hs h he h1 h2 h3 hO
 go_enter Tryz.func151, Tryz.ntmps151
 go_upto_region 1 with fail
 generalize World.alloc w _ = w1 at *
 go_wp2_with fail
 refine (take_l 40 g s _ dp w1 HA0.out.1 HS.out).mono ?_
 rintro e w2 ⟨rfl, hx, hk⟩
 rw [H1.out, tailIf_f] at *
 have HA := Lib.hid (HA0.out.go hk hx)
 clear hx hk HA0
 go_wp2_with fail
 refine (take_l 91 g s _ dp w2 HA.out.1 HS.out).mono ?_
 rintro e w3 ⟨rfl, hx, hk⟩
 rw [H2.out, tailIf_f] at *
 replace HA := Lib.hid (HA.out.go hk hx)
 clear hx hk
 go_wp2_with fail
 refine (take_l 46 g s _ dp w3 HA.out.1 HS.out).mono ?_
 rintro e w4 ⟨rfl, hx, hk⟩
 rw [H3.out, tailIf_f] at *
 replace HA := Lib.hid (HA.out.go hk hx)
 clear hx hk H1 H2 H3
 go_wp2_with fail
 refine (one_l g s l dp w4 HA.out.1 HS.out HA.out.2.1).mono ?_
 rintro e w5 ⟨hk, hx⟩
 cases ho : oneP l with
 | none =>
  rw [ho] at hx HO
  obtain ⟨v, rfl⟩ := hx
  replace HA := Lib.hid (HA.out.2.2.1.trans hk)
  clear hk ho
  go_wp2_with fail
  rw [HO.out]
  exact ⟨rfl, HA.out, ⟨_, rfl⟩⟩
 | some x =>
  obtain ⟨b, r⟩ := x
  rw [ho] at hx HO
  obtain ⟨rfl, hx⟩ := hx
  replace HA := Lib.hid (HA.out.go hk hx)
  dsimp only at HA
  clear hk ho hx
  obtain ⟨k0, k1, k2, k3, k4, k5⟩ := HA.out.2.2.2.1.free
  obtain ⟨r0, r1, r2, r3, r4, r5⟩ := HA.out.2.2.2.1.cells
  simp only at r0 r1 r2 r3 r4 r5
  go_wp2_with fail
  generalize hW : World.setCell _ _ _ = w9
  obtain ⟨hbx, hok⟩ := HA.out.fin (d := ⟨2, b, b, 0, 0, .slice none 0 0⟩) (rng_rd _ b b _) hW
  obtain ⟨s0, s1, s2, s3, s4, s5⟩ := hbx.cells
  refine bodyPost_ret (v := aggP ⟨2, b, b, 0, 0, .slice none 0 0⟩) (by simp only at s0 s1 s2 s3 s4 s5; simp [results, Tryz.results151, go_sem, s0, s1, s2, s3, s4, s5]) rfl ?_
  rw [HO.out]
  exact hok
theorem atom_sqr (g : Nat) (s : ByteArray) (t : List UInt8) (dp : Nat) (w : World) (sub : Option (List UInt8 → Option (RX × List UInt8))) (h : PrsL g s (91 :: t) dp w) (hs : s.size ≤ 1000000000) (he : EnvG g w) :
  Calls Tryz.prog 151 #[.pointer (some ⟨g, 0, none⟩)] w (OkQ g w (atomP pgP sub (91 :: t)) s dp) := by
 have HS := Lib.hid hs
 have HA0 := Lib.hid (AtS.start h he)
 have HO := Lib.hid (atomP_sq sub t)
 generalize atomP pgP sub (91 :: t) = O at *
 clear hs h he
 go_enter Tryz.func151, Tryz.ntmps151
 go_upto_region 1 with fail
 generalize World.alloc w _ = w1 at *
 go_wp2_with fail
 refine (take_l 40 g s _ dp w1 HA0.out.1 HS.out).mono ?_
 rintro e w2 ⟨rfl, hx, hk⟩
 rw [show tkR 40 (91 :: t) = false from by simp [tkR], tailIf_f] at *
 have HA := Lib.hid (HA0.out.go hk hx)
 clear hx hk HA0
 go_wp2_with fail
 refine (take_l 91 g s _ dp w2 HA.out.1 HS.out).mono ?_
 rintro e w3 ⟨rfl, hx, hk⟩
 rw [show tkR 91 (91 :: t) = true from by simp [tkR], tailIf_t, List.tail_cons] at *
 replace HA := Lib.hid (HA.out.go hk hx)
 clear hx hk
 go_wp2_with fail
 refine (take_l 93 g s _ dp w3 HA.out.1 HS.out).mono ?_
 rintro e w4 ⟨rfl, hx, hk⟩
 replace HA := Lib.hid (HA.out.go hk hx)
 clear hx hk
 cases htk : tkR 93 t with
 | true =>
  rw [htk, tailIf_t] at HA
  rw [htk, if_pos rfl] at HO
  clear htk
  go_wp2_with fail
  refine (none_any w4).mono ?_
  rintro e w5 ⟨rfl, hb⟩
  replace HA := Lib.hid (HA.out.below hb)
  obtain ⟨k0, k1, k2, k3, k4, k5⟩ := HA.out.2.2.2.1.free
  obtain ⟨r0, r1, r2, r3, r4, r5⟩ := HA.out.2.2.2.1.cells
  simp only at r0 r1 r2 r3 r4 r5
  clear hb
  simp only [aggP, zeroP]
  go_wp2_with fail
  generalize hW : World.setCell _ _ _ = w9
  obtain ⟨hbx, hok⟩ := HA.out.fin (d := zeroP 0) (p := .mk 0 0 0 0 0 []) (zero_rd _ 0 _) hW
  obtain ⟨s0, s1, s2, s3, s4, s5⟩ := hbx.cells
  refine bodyPost_ret (v := aggP (zeroP 0)) (by simp only [zeroP] at s0 s1 s2 s3 s4 s5; simp [results, Tryz.results151, go_sem, zeroP, s0, s1, s2, s3, s4, s5]) rfl ?_
  rw [HO.out]
  exact hok
 | false =>
  rw [htk, tailIf_f] at HA
  rw [htk, if_neg (by simp)] at HO
  clear htk
  go_wp2_with fail
  refine (one_l g s t dp w4 HA.out.1 HS.out HA.out.2.1).mono ?_
  rintro e w5 ⟨hk, hx⟩
  cases ho : oneP t with
  | none =>
   rw [ho] at hx HO
   obtain ⟨v, rfl⟩ := hx
   replace HA := Lib.hid (HA.out.2.2.1.trans hk)
   clear hk ho
   go_wp2_with fail
   rw [HO.out]
   exact ⟨rfl, HA.out, ⟨_, rfl⟩⟩
  | some x =>
   obtain ⟨lo, r⟩ := x
   rw [ho] at hx HO
   obtain ⟨rfl, hx⟩ := hx
   replace HA := Lib.hid (HA.out.go hk hx)
   dsimp only at HA
   replace HO : Hid (O = if tkR 45 r then (oneP r.tail).bind fun y => if tkR 93 y.2 then some (rngR lo y.1, y.2.tail) else none else none) := HO
   clear hk ho hx
   go_wp2_with fail
   generalize hW : World.alloc w5 _ = w6
   obtain ⟨ha, -, -, hb⟩ := alloc_of hW
   have HB := Lib.hid (show BoxP w5.heap.size ⟨2, lo, 0, 0, 0, .slice none 0 0⟩ w6 from ha)
   have hne : w5.heap.size ≠ g ∧ w.heap.size ≠ w5.heap.size ∧ w.heap.size < w5.heap.size := by
    have h1 := HA.out.1.lt
    have h2 := HA.out.2.2.2.1.lt
    omega
   have HNE := Lib.hid hne
   replace HA := Lib.hid (HA.out.below hb)
   clear hW ha hb hne
   refine (need_l 45 g s r dp w6 HA.out.1 HS.out).mono ?_
   rintro e w7 ⟨hk, hx⟩
   cases htk : tkR 45 r with
   | false =>
    rw [htk, if_neg (by simp)] at hx
    obtain ⟨v, rfl⟩ := hx
    rw [htk, if_neg (by simp)] at HO
    replace HA := Lib.hid (HA.out.2.2.1.trans hk)
    clear hk htk
    go_wp2_with fail
    rw [HO.out]
    exact ⟨rfl, HA.out, ⟨_, rfl⟩⟩
   | true =>
    rw [htk, if_pos rfl] at hx
    obtain ⟨rfl, hx⟩ := hx
    rw [htk, if_pos rfl] at HO
    replace HA := Lib.hid (HA.out.go hk hx)
    replace HB := Lib.hid (HB.out.pk hk HNE.out.1)
    clear hk hx htk
    go_wp2_with fail
    refine (one_l g s r.tail dp w7 HA.out.1 HS.out HA.out.2.1).mono ?_
    rintro e w8 ⟨hk, hx⟩
    cases ho : oneP r.tail with
    | none =>
     rw [ho] at hx HO
     obtain ⟨v, rfl⟩ := hx
     replace HA := Lib.hid (HA.out.2.2.1.trans hk)
     clear hk ho
     go_wp2_with fail
     rw [HO.out]
     exact ⟨rfl, HA.out, ⟨_, rfl⟩⟩
    | some x =>
     obtain ⟨hi, r2⟩ := x
     rw [ho] at hx HO
     obtain ⟨rfl, hx⟩ := hx
     replace HA := Lib.hid (HA.out.go hk hx)
     dsimp only at HA
     replace HB := Lib.hid (HB.out.pk hk HNE.out.1)
     replace HO : Hid (O = if tkR 93 r2 then some (rngR lo hi, r2.tail) else none) := HO
     clear hk ho hx
     obtain ⟨t0, t1, t2, t3, t4, t5⟩ := HB.out.cells
     obtain ⟨k0, k1, k2, k3, k4, k5⟩ := HB.out.free
     simp only at t0 t1 t2 t3 t4 t5
     go_upto_region 15 with fail
     generalize hW : World.setCell w8 _ _ = w9
     have hbb : Below w5.heap.size w8 w9 := hW ▸ (Below.refl _ _).setCell (p := ⟨w5.heap.size, 2, none⟩) (Nat.le_refl _) _
     have hot : ∀ x, x ≠ w5.heap.size → w9.heap[x]? = w8.heap[x]? := fun x hx => hW ▸ Below.heap_setCell _ _ _ _ hx
     replace HB := Lib.hid (show BoxP w5.heap.size ⟨2, lo, hi, 0, 0, .slice none 0 0⟩ w9 from hW ▸ heap_setCell_same w8 w5.heap.size 2 _ _ (.int .i64 (hi : Int)) HB.out)
     replace HA := Lib.hid (HA.out.own hbb hot HNE.out.2.2)
     clear hW hbb hot t0 t1 t2 t3 t4 t5 k0 k1 k2 k3 k4 k5
     go_wp2_with fail
     refine (need_l 93 g s r2 dp w9 HA.out.1 HS.out).mono ?_
     rintro e w10 ⟨hk, hx⟩
     cases htk : tkR 93 r2 with
     | false =>
      rw [htk, if_neg (by simp)] at hx
      obtain ⟨v, rfl⟩ := hx
      rw [htk, if_neg (by simp)] at HO
      replace HA := Lib.hid (HA.out.2.2.1.trans hk)
      clear hk htk
      go_wp2_with fail
      rw [HO.out]
      exact ⟨rfl, HA.out, ⟨_, rfl⟩⟩
     | true =>
      rw [htk, if_pos rfl] at hx
      obtain ⟨rfl, hx⟩ := hx
      rw [htk, if_pos rfl] at HO
      replace HA := Lib.hid (HA.out.go hk hx)
      replace HB := Lib.hid (HB.out.pk hk HNE.out.1)
      clear hk hx htk
      obtain ⟨k0, k1, k2, k3, k4, k5⟩ := HA.out.2.2.2.1.free
      obtain ⟨r0, r1, r2, r3, r4, r5⟩ := HA.out.2.2.2.1.cells
      obtain ⟨t0, t1, t2, t3, t4, t5⟩ := HB.out.cells
      simp only at r0 r1 r2 r3 r4 r5 t0 t1 t2 t3 t4 t5
      go_wp2_with fail
      generalize hW : World.setCell _ _ _ = w11
      obtain ⟨hbx, hok⟩ := HA.out.fin (d := ⟨2, lo, hi, 0, 0, .slice none 0 0⟩) (rng_rd _ lo hi _) hW
      obtain ⟨s0, s1, s2, s3, s4, s5⟩ := hbx.cells
      refine bodyPost_ret (v := aggP ⟨2, lo, hi, 0, 0, .slice none 0 0⟩) (by simp only at s0 s1 s2 s3 s4 s5; simp [results, Tryz.results151, go_sem, s0, s1, s2, s3, s4, s5]) rfl ?_
      rw [HO.out]
      exact hok
theorem atom_l (g : Nat) (s : ByteArray) (l : List UInt8) (dp : Nat) (w : World) (sub : Option (List UInt8 → Option (RX × List UInt8)))
  (hsub : (sub = none ∧ dp = 96) ∨ ∃ f, sub = some f ∧ dp + 1 ≤ 96 ∧ ∀ l w, PrsL g s l (dp + 1) w → EnvG g w → Calls Tryz.prog 66 #[.pointer (some ⟨g, 0, none⟩), .int .i64 1] w (OkQ g w (f l) s (dp + 1)))
  (h : PrsL g s l dp w) (hs : s.size ≤ 1000000000) (he : EnvG g w) :
  Calls Tryz.prog 151 #[.pointer (some ⟨g, 0, none⟩)] w (OkQ g w (atomP pgP sub l) s dp) := by
 cases h1 : tkR 40 l with
 | true =>
  obtain ⟨t, rfl⟩ : ∃ t, l = 40 :: t := by
   cases l with
   | nil => simp [tkR] at h1
   | cons c t => exact ⟨t, by simp [tkR] at h1; rw [h1]⟩
  exact atom_paren g s t dp w sub hsub h hs he
 | false =>
  cases h2 : tkR 91 l with
  | true =>
   obtain ⟨t, rfl⟩ : ∃ t, l = 91 :: t := by
    cases l with
    | nil => simp [tkR] at h2
    | cons c t => exact ⟨t, by simp [tkR] at h2; rw [h2]⟩
   exact atom_sqr g s t dp w sub h hs he
  | false =>
   cases h3 : tkR 46 l with
   | true =>
    obtain ⟨t, rfl⟩ : ∃ t, l = 46 :: t := by
     cases l with
     | nil => simp [tkR] at h3
     | cons c t => exact ⟨t, by simp [tkR] at h3; rw [h3]⟩
    rw [atomP_dot]
    exact atom_dot g s t dp w h hs he
   | false =>
    rw [atomP_chr sub l h1 h2 h3]
    exact atom_chr g s l dp w h1 h2 h3 h hs he
end Go.Proofs.YtpkecepelcppiaaGreatDoor

namespace Go.Proofs.YtpkecepelcppiaaGreatDoor
open Go.RowKit Go.Shelf
set_option maxHeartbeats 4000000
set_option maxRecDepth 100000

theorem sng_rd {N : Nat → Prop} {w : World} {c : PC} {p : RX} {m : Nat} {op lo hi mn mx : Int} (h : RdQ N w c p) (hb : BoxP m c w) (hN : N m) : RdQ N w ⟨op, lo, hi, mn, mx, .slice (some ⟨m, 0, none⟩) 1 1⟩ (.mk op lo hi mn mx [p]) := by
 refine .mk op lo hi mn mx [p] _ (fun _ => c) ⟨some ⟨m, 0, none⟩, 1, rfl, Nat.le_refl _, by decide, (fun h => by cases h), fun _ => ⟨m, 0, rfl, hb.lt, fun i hi j hj => ?_⟩⟩ (fun _ => ⟨m, 0, 1, 1, rfl, hN⟩) (fun i hi => ?_)
 ·have hi0 : i = 0 := by simp at hi; omega
  subst hi0
  have := cell_of_row w m (0 + 0 * 6 + j) _ _ (0, 0) hb
  rw [this]
  simp
 ·have hi0 : i = 0 := by simp at hi; omega
  subst hi0
  exact h
def brcP (t : List UInt8) : BndP := match numPR t with
 | none => .bad
 | some x => if tkR 44 x.2 then
   (if tkR 125 x.2.tail then .yes x.1 (-1) x.2.tail.tail
    else match numPR x.2.tail with
     | none => .bad
     | some y => if tkR 125 y.2 then .yes x.1 y.1 y.2.tail else .bad)
  else .bad
theorem bndP_tk (l : List UInt8) : bndP l = if tkR 42 l then .yes 0 (-1) l.tail else if tkR 43 l then .yes 1 (-1) l.tail else if tkR 63 l then .yes 0 1 l.tail else if tkR 123 l then brcP l.tail else .no := by
 cases l with
 | nil => rfl
 | cons c t =>
  have e : ∀ x : UInt8, (tkR x (c :: t) = true) = (c = x) := fun x => by unfold tkR; simp
  unfold bndP
  dsimp only
  simp only [e, List.tail_cons]
  by_cases h1 : c = 42
  ·rw [if_pos h1, if_pos h1]
  rw [if_neg h1, if_neg h1]
  by_cases h2 : c = 43
  ·rw [if_pos h2, if_pos h2]
  rw [if_neg h2, if_neg h2]
  by_cases h3 : c = 63
  ·rw [if_pos h3, if_pos h3]
  rw [if_neg h3, if_neg h3]
  by_cases h4 : c = 123
  ·rw [if_pos h4, if_pos h4]
   unfold brcP
   cases numPR t with
   | none => rfl
   | some x =>
    obtain ⟨n, t1⟩ := x
    show (match needP 44 t1 with | none => _ | some t2 => _) = _
    rw [needP_tk]
    dsimp only
    by_cases h5 : tkR 44 t1 = true
    ·rw [if_pos h5, if_pos h5]
     have h0 : (t1.tail.head? = some 125) = (tkR 125 t1.tail = true) := by unfold tkR; simp
     show (if t1.tail.head? = some 125 then _ else _) = _
     by_cases h6 : tkR 125 t1.tail = true
     ·rw [if_pos (h0 ▸ h6), if_pos h6, List.drop_one]
     ·rw [if_neg (h0 ▸ h6), if_neg h6]
      cases numPR t1.tail with
      | none => rfl
      | some y =>
       obtain ⟨m, t3⟩ := y
       show (match needP 125 t3 with | none => _ | some t4 => _) = _
       rw [needP_tk]
       dsimp only
       by_cases h7 : tkR 125 t3 = true
       ·rw [if_pos h7, if_pos h7]
       ·rw [if_neg h7, if_neg h7]
    ·rw [if_neg h5, if_neg h5]
  ·rw [if_neg h4, if_neg h4]
theorem post_yes {f : Nat} {p : RX} {l r : List UInt8} {mn mx : Int} (h : bndP l = .yes mn mx r) : postP pgP (f + 1) p l = postP pgP f (.mk 5 0 0 mn mx [p]) r := by
 rw [postP]
 show (match bndP l with | .no => _ | .bad => _ | .yes mn mx r => _) = _
 rw [h]
theorem post_bad {f : Nat} {p : RX} {l : List UInt8} (h : bndP l = .bad) : postP pgP (f + 1) p l = none := by
 rw [postP]
 show (match bndP l with | .no => _ | .bad => _ | .yes mn mx r => _) = _
 rw [h]
theorem post_no {f : Nat} {p : RX} {l : List UInt8} (h : bndP l = .no) : postP pgP (f + 1) p l = some (p, l) := by
 rw [postP]
 show (match bndP l with | .no => _ | .bad => _ | .yes mn mx r => _) = _
 rw [h]
theorem postfix_l (g : Nat) (s : ByteArray) (l : List UInt8) (dp : Nat) (w : World) (A : List UInt8 → Option (RX × List UInt8))
  (hatom : ∀ w, PrsL g s l dp w → EnvG g w → Calls Tryz.prog 151 #[.pointer (some ⟨g, 0, none⟩)] w (OkQ g w (A l) s dp))
  (h : PrsL g s l dp w) (hs : s.size ≤ 1000000000) (he : EnvG g w) :
  Calls Tryz.prog 128 #[.pointer (some ⟨g, 0, none⟩)] w (OkQ g w ((A l).bind fun x => postP pgP 49 x.1 x.2) s dp) := by
 have HS := Lib.hid hs
 have HA0 := Lib.hid (AtS.start h he)
 have HAT := Lib.hid hatom
 obtain ⟨O, hO⟩ : ∃ O, O = (A l).bind fun x => postP pgP 49 x.1 x.2 := ⟨_, rfl⟩
 rw [← hO]
 have HO := Lib.hid hO
 clear hs h he hatom hO
 go_enter Tryz.func128, Tryz.ntmps128
 go_upto_region 1 with fail
 have hz0 : (World.alloc w (.cells #[.int .i64 0, .int .i64 0, .int .i64 0, .int .i64 0, .int .i64 0, .slice none 0 0] 45)).heap.size = w.heap.size + 1 := by simp
 have HZ := Lib.hid hz0
 clear hz0
 generalize World.alloc w _ = w1 at *
 have HC := Lib.hid (HAT.out w1 HA0.out.1 HA0.out.2.1)
 clear HAT
 go_wp2_with fail
 refine HC.out.mono ?_
 rintro e w2 ⟨hk, hx⟩
 cases hal : A l with
 | none =>
  rw [hal] at hx HO
  obtain ⟨v, rfl⟩ := hx
  have HA := Lib.hid (HA0.out.2.2.1.trans hk)
  clear hk hal HA0 HC
  go_wp2_with fail
  rw [HO.out]
  exact ⟨rfl, HA.out, ⟨_, rfl⟩⟩
 | some x =>
  obtain ⟨p, r⟩ := x
  rw [hal] at hx HO
  obtain ⟨c, rfl, hc, hx⟩ := hx
  have HA := Lib.hid (HA0.out.go hk hx)
  dsimp only at HA
  have HO2 : Hid (O = postP pgP 49 p r) := HO
  have HCp := Lib.hid (show RdQ (fun b => w1.heap.size ≤ b) w2 c p from hc)
  clear hk hx hal HA0 HC HO hc
  obtain ⟨qa, qcap, hqa⟩ := HCp.out.rd.forms
  generalize p.args.length = pn at *
  obtain ⟨q0, q1, q2, q3, q4, q5⟩ := c
  simp only at hqa
  subst hqa
  simp only [aggP]
  go_upto_region 2 with fail
  generalize hW : World.alloc w2 _ = w3
  obtain ⟨ha, -, hz, hb⟩ := alloc_of hW
  have HB := Lib.hid (show BoxP w2.heap.size ⟨q0, q1, q2, q3, q4, .slice qa pn qcap⟩ w3 from ha)
  have hbl : w.heap.size < w2.heap.size ∧ g < w.heap.size := ⟨HA.out.2.2.2.1.lt, HA.out.2.2.2.2⟩
  replace HA := Lib.hid (HA.out.below hb)
  have HP0 := Lib.hid ((HCp.out.mono (M := fun x => (w.heap.size < x ∧ x ≠ g ∧ x ≠ w2.heap.size)) (fun x h1 h2 => by have := HZ.out; omega)).stay hb)
  have HBL := Lib.hid hbl
  clear hW ha hz hb hbl HCp
  generalize w2.heap.size = b at *
  go_wp2_with fail
  go_loopw [4] (fun nv wr => ∃ (k : Nat) (p : RX) (c : PC) (r : List UInt8), k ≤ 49 ∧ nv = .int .i64 (k : Int) ∧ Hid (AtS g s r dp w wr) ∧ Hid (BoxP b c wr) ∧ Hid (RdQ (fun x => w.heap.size < x ∧ x ≠ g ∧ x ≠ b) wr c p) ∧ Hid (O = postP pgP (49 - k) p r)) (fun nv _ => 49 - (intOf nv).toNat)
  case atStart => exact ⟨0, _, _, _, by omega, rfl, HA.out, HB.out, HP0.out, HO2.out⟩
  case round =>
   obtain ⟨k, p, c, r, hk49, rfl, HA, HB, HP0, HF⟩ := hrel
   clear HO2
   by_cases hk : k = 49
   case pos =>
    subst hk
    replace HF : Hid (O = none) := HF.out
    have HA2 := Lib.hid HA.out.2.2.1
    go_wp2_with fail
    rw [HF.out]
    exact ⟨rfl, HA2.out, ⟨_, rfl⟩⟩
   case neg =>
    have hk48 : (k : Int) ≤ 48 := by omega
    replace HF : Hid (O = postP pgP (49 - (k + 1) + 1) p r) := by
     unfold Hid
     rw [HF.out, show 49 - k = 49 - (k + 1) + 1 by omega]
    replace HBL : Hid (w.heap.size < b ∧ g < w.heap.size ∧ b < wr.heap.size) := ⟨HBL.out.1, HBL.out.2, HB.out.lt⟩
    obtain ⟨qa, qcap, hqa⟩ := HP0.out.rd.forms
    generalize p.args.length = pn at *
    obtain ⟨q0, q1, q2, q3, q4, q5⟩ := c
    simp only at hqa
    subst hqa
    obtain ⟨r0, r1, r2, r3, r4, r5⟩ := HB.out.cells
    simp only at r0 r1 r2 r3 r4 r5
    clear hk
    go_upto_region 7 with fail
    generalize hW1 : World.alloc wr _ = w5
    obtain ⟨ha, -, hz, hb⟩ := alloc_of hW1
    have HM := Lib.hid (show BoxP wr.heap.size ⟨q0, q1, q2, q3, q4, .slice qa pn qcap⟩ w5 from ha)
    replace HA := Lib.hid (HA.out.below hb)
    replace HB := Lib.hid (HB.out.below hb)
    have HP := Lib.hid ((HP0.out.mono (M := fun x => (w.heap.size < x ∧ x ≠ g ∧ x ≠ b) ∧ x < wr.heap.size) (fun x h1 h2 => ⟨h1, h2⟩)).stay hb)
    generalize hW2 : World.alloc w5 _ = w6
    obtain ⟨ha2, -, hz2, hb2⟩ := alloc_of hW2
    rw [hz] at ha2
    have HQ := Lib.hid (show BoxP (wr.heap.size + 1) ⟨5, 0, 0, 0, -1, .slice (some ⟨wr.heap.size, 0, none⟩) 1 1⟩ w6 from ha2)
    replace HA := Lib.hid (HA.out.below hb2)
    replace HB := Lib.hid (HB.out.below hb2)
    replace HM := Lib.hid (HM.out.below hb2)
    replace HP := Lib.hid (HP.out.stay hb2)
    clear hW1 ha hz hb hW2 ha2 hz2 hb2 HP0 r0 r1 r2 r3 r4 r5
    have HBN := Lib.hid (bndP_tk r)
    go_wp2_with fail
    refine (take_l 42 g s r dp w6 HA.out.1 HS.out).mono ?_
    rintro e w7 ⟨rfl, hx, hk⟩

    replace HA := Lib.hid (HA.out.go hk hx)
    replace HB := Lib.hid (HB.out.pk hk (by have := HBL.out; omega))
    replace HM := Lib.hid (HM.out.pk hk (by have := HBL.out; omega))
    replace HQ := Lib.hid (HQ.out.pk hk (by have := HBL.out; omega))
    replace HP := Lib.hid (HP.out.keep (fun x hx hl => hk.keep x hx.1.2.1 hl))
    clear hk hx

    cases h42 : tkR 42 r with
    | true =>
     rw [h42, tailIf_t] at HA
     rw [h42, if_pos rfl] at HBN
     rw [post_yes HBN.out] at HF
     clear h42 HBN
     have HQc := Lib.hid (sng_rd (op := 5) (lo := 0) (hi := 0) (mn := 0) (mx := (-1)) (N := fun x => (w.heap.size < x ∧ x ≠ g ∧ x ≠ b) ∧ x < wr.heap.size + 1) (HP.out.mono (fun x h _ => ⟨h.1, by omega⟩)) HM.out ⟨⟨by have := HBL.out; omega, by have := HBL.out; omega, by have := HBL.out; omega⟩, by omega⟩)
     obtain ⟨t0, t1, t2, t3, t4, t5⟩ := HQ.out.cells
     obtain ⟨k0, k1, k2, k3, k4, k5⟩ := HB.out.free
     obtain ⟨r0, r1, r2, r3, r4, r5⟩ := HB.out.cells
     simp only at t0 t1 t2 t3 t4 t5 r0 r1 r2 r3 r4 r5
     go_upto_region 4 with fail
     generalize hW : World.setCell _ _ _ = w9
     obtain ⟨hb1, hb2⟩ := HB.out.set (d := ⟨5, 0, 0, 0, (-1), .slice (some ⟨wr.heap.size, 0, none⟩) 1 1⟩) hW
     have hot := set6_other hW
     replace HA := Lib.hid (HA.out.own hb2 hot HBL.out.1)
     replace HQc := Lib.hid (HQc.out.keep (w' := w9) (fun x hx _ => hot x hx.1.2.2))
     replace HB := Lib.hid hb1
     clear hW hb1 hb2 hot t0 t1 t2 t3 t4 t5 k0 k1 k2 k3 k4 k5 r0 r1 r2 r3 r4 r5
     go_wp2_with fail
     exact ⟨⟨k + 1, _, _, r.tail, by omega, rfl, HA.out, HB.out, HQc.out.mono (fun x h _ => h.1), HF.out⟩, by simp [intOf]; omega⟩

    | false =>
     rw [h42, tailIf_f] at HA
     rw [h42, if_neg (by simp)] at HBN
     clear h42
     go_wp2_with fail
     refine (take_l 43 g s r dp w7 HA.out.1 HS.out).mono ?_
     rintro e w8 ⟨rfl, hx, hk⟩

     replace HA := Lib.hid (HA.out.go hk hx)
     replace HB := Lib.hid (HB.out.pk hk (by have := HBL.out; omega))
     replace HM := Lib.hid (HM.out.pk hk (by have := HBL.out; omega))
     replace HQ := Lib.hid (HQ.out.pk hk (by have := HBL.out; omega))
     replace HP := Lib.hid (HP.out.keep (fun x hx hl => hk.keep x hx.1.2.1 hl))
     clear hk hx

     cases h43 : tkR 43 r with
     | true =>
      rw [h43, tailIf_t] at HA
      rw [h43, if_pos rfl] at HBN
      rw [post_yes HBN.out] at HF
      clear h43 HBN
      obtain ⟨k0, k1, k2, k3, k4, k5⟩ := HQ.out.free
      obtain ⟨r0, r1, r2, r3, r4, r5⟩ := HQ.out.cells
      simp only at r0 r1 r2 r3 r4 r5
      go_upto_region 18 with fail
      generalize hW : World.setCell w8 _ _ = w10
      have hbb : Below (wr.heap.size + 1) w8 w10 := hW ▸ (Below.refl _ _).setCell (p := ⟨wr.heap.size + 1, 3, none⟩) (Nat.le_refl _) _
      have hot : ∀ x, x ≠ wr.heap.size + 1 → w10.heap[x]? = w8.heap[x]? := fun x hx => hW ▸ Below.heap_setCell _ _ _ _ hx
      replace HQ := Lib.hid (show BoxP (wr.heap.size + 1) ⟨5, 0, 0, 1, -1, .slice (some ⟨wr.heap.size, 0, none⟩) 1 1⟩ w10 from hW ▸ heap_setCell_same w8 (wr.heap.size + 1) 3 _ _ (.int .i64 1) HQ.out)
      replace HA := Lib.hid (HA.out.own hbb hot (by have := HBL.out; omega))
      replace HB := Lib.hid (show BoxP b ⟨q0, q1, q2, q3, q4, .slice qa pn qcap⟩ w10 from (hot b (by have := HBL.out; omega)).trans HB.out)
      replace HM := Lib.hid (show BoxP wr.heap.size ⟨q0, q1, q2, q3, q4, .slice qa pn qcap⟩ w10 from (hot wr.heap.size (by omega)).trans HM.out)
      replace HP := Lib.hid (HP.out.keep (w' := w10) (fun x hx _ => hot x (by omega)))
      clear hW hbb hot k0 k1 k2 k3 k4 k5 r0 r1 r2 r3 r4 r5

      have HQc := Lib.hid (sng_rd (op := 5) (lo := 0) (hi := 0) (mn := 1) (mx := (-1)) (N := fun x => (w.heap.size < x ∧ x ≠ g ∧ x ≠ b) ∧ x < wr.heap.size + 1) (HP.out.mono (fun x h _ => ⟨h.1, by omega⟩)) HM.out ⟨⟨by have := HBL.out; omega, by have := HBL.out; omega, by have := HBL.out; omega⟩, by omega⟩)
      obtain ⟨t0, t1, t2, t3, t4, t5⟩ := HQ.out.cells
      obtain ⟨k0, k1, k2, k3, k4, k5⟩ := HB.out.free
      obtain ⟨r0, r1, r2, r3, r4, r5⟩ := HB.out.cells
      simp only at t0 t1 t2 t3 t4 t5 r0 r1 r2 r3 r4 r5
      go_upto_region 4 with fail
      generalize hW : World.setCell _ _ _ = w9
      obtain ⟨hb1, hb2⟩ := HB.out.set (d := ⟨5, 0, 0, 1, (-1), .slice (some ⟨wr.heap.size, 0, none⟩) 1 1⟩) hW
      have hot := set6_other hW
      replace HA := Lib.hid (HA.out.own hb2 hot HBL.out.1)
      replace HQc := Lib.hid (HQc.out.keep (w' := w9) (fun x hx _ => hot x hx.1.2.2))
      replace HB := Lib.hid hb1
      clear hW hb1 hb2 hot t0 t1 t2 t3 t4 t5 k0 k1 k2 k3 k4 k5 r0 r1 r2 r3 r4 r5
      go_wp2_with fail
      exact ⟨⟨k + 1, _, _, r.tail, by omega, rfl, HA.out, HB.out, HQc.out.mono (fun x h _ => h.1), HF.out⟩, by simp [intOf]; omega⟩

     | false =>
      rw [h43, tailIf_f] at HA
      rw [h43, if_neg (by simp)] at HBN
      clear h43
      go_wp2_with fail
      refine (take_l 63 g s r dp w8 HA.out.1 HS.out).mono ?_
      rintro e w11 ⟨rfl, hx, hk⟩

      replace HA := Lib.hid (HA.out.go hk hx)
      replace HB := Lib.hid (HB.out.pk hk (by have := HBL.out; omega))
      replace HM := Lib.hid (HM.out.pk hk (by have := HBL.out; omega))
      replace HQ := Lib.hid (HQ.out.pk hk (by have := HBL.out; omega))
      replace HP := Lib.hid (HP.out.keep (fun x hx hl => hk.keep x hx.1.2.1 hl))
      clear hk hx

      cases h63 : tkR 63 r with
      | true =>
       rw [h63, tailIf_t] at HA
       rw [h63, if_pos rfl] at HBN
       rw [post_yes HBN.out] at HF
       clear h63 HBN
       obtain ⟨k0, k1, k2, k3, k4, k5⟩ := HQ.out.free
       obtain ⟨r0, r1, r2, r3, r4, r5⟩ := HQ.out.cells
       simp only at r0 r1 r2 r3 r4 r5
       go_upto_region 18 with fail
       generalize hW : World.setCell w11 _ _ = w12
       have hbb : Below (wr.heap.size + 1) w11 w12 := hW ▸ (Below.refl _ _).setCell (p := ⟨wr.heap.size + 1, 4, none⟩) (Nat.le_refl _) _
       have hot : ∀ x, x ≠ wr.heap.size + 1 → w12.heap[x]? = w11.heap[x]? := fun x hx => hW ▸ Below.heap_setCell _ _ _ _ hx
       replace HQ := Lib.hid (show BoxP (wr.heap.size + 1) ⟨5, 0, 0, 0, 1, .slice (some ⟨wr.heap.size, 0, none⟩) 1 1⟩ w12 from hW ▸ heap_setCell_same w11 (wr.heap.size + 1) 4 _ _ (.int .i64 1) HQ.out)
       replace HA := Lib.hid (HA.out.own hbb hot (by have := HBL.out; omega))
       replace HB := Lib.hid (show BoxP b ⟨q0, q1, q2, q3, q4, .slice qa pn qcap⟩ w12 from (hot b (by have := HBL.out; omega)).trans HB.out)
       replace HM := Lib.hid (show BoxP wr.heap.size ⟨q0, q1, q2, q3, q4, .slice qa pn qcap⟩ w12 from (hot wr.heap.size (by omega)).trans HM.out)
       replace HP := Lib.hid (HP.out.keep (w' := w12) (fun x hx _ => hot x (by omega)))
       clear hW hbb hot k0 k1 k2 k3 k4 k5 r0 r1 r2 r3 r4 r5

       have HQc := Lib.hid (sng_rd (op := 5) (lo := 0) (hi := 0) (mn := 0) (mx := 1) (N := fun x => (w.heap.size < x ∧ x ≠ g ∧ x ≠ b) ∧ x < wr.heap.size + 1) (HP.out.mono (fun x h _ => ⟨h.1, by omega⟩)) HM.out ⟨⟨by have := HBL.out; omega, by have := HBL.out; omega, by have := HBL.out; omega⟩, by omega⟩)
       obtain ⟨t0, t1, t2, t3, t4, t5⟩ := HQ.out.cells
       obtain ⟨k0, k1, k2, k3, k4, k5⟩ := HB.out.free
       obtain ⟨r0, r1, r2, r3, r4, r5⟩ := HB.out.cells
       simp only at t0 t1 t2 t3 t4 t5 r0 r1 r2 r3 r4 r5
       go_upto_region 4 with fail
       generalize hW : World.setCell _ _ _ = w9
       obtain ⟨hb1, hb2⟩ := HB.out.set (d := ⟨5, 0, 0, 0, 1, .slice (some ⟨wr.heap.size, 0, none⟩) 1 1⟩) hW
       have hot := set6_other hW
       replace HA := Lib.hid (HA.out.own hb2 hot HBL.out.1)
       replace HQc := Lib.hid (HQc.out.keep (w' := w9) (fun x hx _ => hot x hx.1.2.2))
       replace HB := Lib.hid hb1
       clear hW hb1 hb2 hot t0 t1 t2 t3 t4 t5 k0 k1 k2 k3 k4 k5 r0 r1 r2 r3 r4 r5
       go_wp2_with fail
       exact ⟨⟨k + 1, _, _, r.tail, by omega, rfl, HA.out, HB.out, HQc.out.mono (fun x h _ => h.1), HF.out⟩, by simp [intOf]; omega⟩

      | false =>
       rw [h63, tailIf_f] at HA
       rw [h63, if_neg (by simp)] at HBN
       clear h63
       go_wp2_with fail
       refine (take_l 123 g s r dp w11 HA.out.1 HS.out).mono ?_
       rintro e w13 ⟨rfl, hx, hk⟩

       replace HA := Lib.hid (HA.out.go hk hx)
       replace HB := Lib.hid (HB.out.pk hk (by have := HBL.out; omega))
       replace HM := Lib.hid (HM.out.pk hk (by have := HBL.out; omega))
       replace HQ := Lib.hid (HQ.out.pk hk (by have := HBL.out; omega))
       replace HP := Lib.hid (HP.out.keep (fun x hx hl => hk.keep x hx.1.2.1 hl))
       clear hk hx

       cases h123 : tkR 123 r with
       | false =>
        rw [h123, tailIf_f] at HA
        rw [h123, if_neg (by simp)] at HBN
        rw [post_no HBN.out] at HF
        clear h123 HBN
        obtain ⟨k0, k1, k2, k3, k4, k5⟩ := HA.out.2.2.2.1.free
        obtain ⟨r0, r1, r2, r3, r4, r5⟩ := HA.out.2.2.2.1.cells
        obtain ⟨t0, t1, t2, t3, t4, t5⟩ := HB.out.cells
        simp only at r0 r1 r2 r3 r4 r5 t0 t1 t2 t3 t4 t5
        go_wp2_with fail
        generalize hW : World.setCell _ _ _ = w14
        obtain ⟨hbx, hok⟩ := HA.out.fin (d := ⟨q0, q1, q2, q3, q4, .slice qa pn qcap⟩) (HP.out.mono (fun b h _ => h.1.1)) hW
        obtain ⟨s0, s1, s2, s3, s4, s5⟩ := hbx.cells
        refine bodyPost_ret (v := aggP ⟨q0, q1, q2, q3, q4, .slice qa pn qcap⟩) (by simp only at s0 s1 s2 s3 s4 s5; simp [results, Tryz.results128, go_sem, s0, s1, s2, s3, s4, s5]) rfl ?_
        rw [HF.out]
        exact hok
       | true =>
        rw [h123, tailIf_t] at HA
        rw [h123, if_pos rfl] at HBN
        clear h123
        generalize r.tail = t at *
        go_wp2_with fail
        refine (number_l g s t dp w13 HA.out.1 HS.out).mono ?_
        rintro e w14 ⟨hk, hx⟩
        cases hn : numPR t with
        | none =>
         rw [hn] at hx
         have hbad : bndP r = .bad := by rw [HBN.out]; unfold brcP; rw [hn]
         rw [post_bad hbad] at HF
         clear hn hbad HBN
         obtain ⟨v, rfl⟩ := hx
         replace HA := Lib.hid (HA.out.2.2.1.trans hk)
         clear hk
         go_wp2_with fail
         rw [HF.out]
         exact ⟨rfl, HA.out, ⟨_, rfl⟩⟩

        | some x =>
         obtain ⟨n, t1⟩ := x
         rw [hn] at hx
         obtain ⟨rfl, hx⟩ := hx
         replace HBN : Hid (bndP r = if tkR 44 t1 then
          (if tkR 125 t1.tail then .yes n (-1) t1.tail.tail
           else match numPR t1.tail with
            | none => .bad
            | some y => if tkR 125 y.2 then .yes n y.1 y.2.tail else .bad)
          else .bad) := by
          unfold Hid
          rw [HBN.out]
          unfold brcP
          rw [hn]
         clear hn
         dsimp only at hx
         replace HA := Lib.hid (HA.out.go hk hx)
         replace HB := Lib.hid (HB.out.pk hk (by have := HBL.out; omega))
         replace HM := Lib.hid (HM.out.pk hk (by have := HBL.out; omega))
         replace HQ := Lib.hid (HQ.out.pk hk (by have := HBL.out; omega))
         replace HP := Lib.hid (HP.out.keep (fun x hx hl => hk.keep x hx.1.2.1 hl))
         clear hk hx

         obtain ⟨k0, k1, k2, k3, k4, k5⟩ := HQ.out.free
         obtain ⟨r0, r1, r2, r3, r4, r5⟩ := HQ.out.cells
         simp only at r0 r1 r2 r3 r4 r5
         go_upto_region 14 with fail
         generalize hW : World.setCell w14 _ _ = w15
         have hbb : Below (wr.heap.size + 1) w14 w15 := hW ▸ (Below.refl _ _).setCell (p := ⟨wr.heap.size + 1, 3, none⟩) (Nat.le_refl _) _
         have hot : ∀ x, x ≠ wr.heap.size + 1 → w15.heap[x]? = w14.heap[x]? := fun x hx => hW ▸ Below.heap_setCell _ _ _ _ hx
         replace HQ := Lib.hid (show BoxP (wr.heap.size + 1) ⟨5, 0, 0, n, -1, .slice (some ⟨wr.heap.size, 0, none⟩) 1 1⟩ w15 from hW ▸ heap_setCell_same w14 (wr.heap.size + 1) 3 _ _ (.int .i64 (n : Int)) HQ.out)
         replace HA := Lib.hid (HA.out.own hbb hot (by have := HBL.out; omega))
         replace HB := Lib.hid (show BoxP b ⟨q0, q1, q2, q3, q4, .slice qa pn qcap⟩ w15 from (hot b (by have := HBL.out; omega)).trans HB.out)
         replace HM := Lib.hid (show BoxP wr.heap.size ⟨q0, q1, q2, q3, q4, .slice qa pn qcap⟩ w15 from (hot wr.heap.size (by omega)).trans HM.out)
         replace HP := Lib.hid (HP.out.keep (w' := w15) (fun x hx _ => hot x (by omega)))
         clear hW hbb hot k0 k1 k2 k3 k4 k5 r0 r1 r2 r3 r4 r5

         go_wp2_with fail
         refine (need_l 44 g s t1 dp w15 HA.out.1 HS.out).mono ?_
         rintro e w16 ⟨hk, hx⟩
         cases h44 : tkR 44 t1 with
         | false =>
          rw [h44, if_neg (by simp)] at hx HBN
          rw [post_bad HBN.out] at HF
          clear h44 HBN
          obtain ⟨v, rfl⟩ := hx
          replace HA := Lib.hid (HA.out.2.2.1.trans hk)
          clear hk
          go_wp2_with fail
          rw [HF.out]
          exact ⟨rfl, HA.out, ⟨_, rfl⟩⟩

         | true =>
          rw [h44, if_pos rfl] at hx HBN
          obtain ⟨rfl, hx⟩ := hx
          clear h44
          replace HA := Lib.hid (HA.out.go hk hx)
          replace HB := Lib.hid (HB.out.pk hk (by have := HBL.out; omega))
          replace HM := Lib.hid (HM.out.pk hk (by have := HBL.out; omega))
          replace HQ := Lib.hid (HQ.out.pk hk (by have := HBL.out; omega))
          replace HP := Lib.hid (HP.out.keep (fun x hx hl => hk.keep x hx.1.2.1 hl))
          clear hk hx

          generalize t1.tail = t2 at *
          go_wp2_with fail
          refine (peek_l g s t2 dp w16 HA.out.1).mono ?_
          rintro e w17 ⟨rfl, hx, hb⟩
          have hk := PK.of_below (g := g) hb (Nat.le_of_lt HA.out.1.lt)

          replace HA := Lib.hid (HA.out.go hk hx)
          replace HB := Lib.hid (HB.out.pk hk (by have := HBL.out; omega))
          replace HM := Lib.hid (HM.out.pk hk (by have := HBL.out; omega))
          replace HQ := Lib.hid (HQ.out.pk hk (by have := HBL.out; omega))
          replace HP := Lib.hid (HP.out.keep (fun x hx hl => hk.keep x hx.1.2.1 hl))
          clear hk hx

          clear hb
          have hpk := tk_pk 125 t2
          cases h125 : tkR 125 t2 with
          | true =>
           rw [h125] at hpk
           rw [h125, if_pos rfl] at HBN
           rw [post_yes HBN.out] at HF
           have hp : (pkR t2 != 125) = false := by
            have : (pkR t2 == 125) = true := hpk
            simp [bne, this]
           clear hpk HBN
           generalize pkR t2 = pk at *
           go_wp2_with fail
           refine (need_l 125 g s t2 dp w17 HA.out.1 HS.out).mono ?_
           rintro e w18 ⟨hk, hx⟩
           rw [h125, if_pos rfl] at hx
           obtain ⟨rfl, hx⟩ := hx
           clear h125 hp
           replace HA := Lib.hid (HA.out.go hk hx)
           replace HB := Lib.hid (HB.out.pk hk (by have := HBL.out; omega))
           replace HM := Lib.hid (HM.out.pk hk (by have := HBL.out; omega))
           replace HQ := Lib.hid (HQ.out.pk hk (by have := HBL.out; omega))
           replace HP := Lib.hid (HP.out.keep (fun x hx hl => hk.keep x hx.1.2.1 hl))
           clear hk hx

           have HQc := Lib.hid (sng_rd (op := 5) (lo := 0) (hi := 0) (mn := n) (mx := (-1)) (N := fun x => (w.heap.size < x ∧ x ≠ g ∧ x ≠ b) ∧ x < wr.heap.size + 1) (HP.out.mono (fun x h _ => ⟨h.1, by omega⟩)) HM.out ⟨⟨by have := HBL.out; omega, by have := HBL.out; omega, by have := HBL.out; omega⟩, by omega⟩)
           obtain ⟨t0, t1, t2, t3, t4, t5⟩ := HQ.out.cells
           obtain ⟨k0, k1, k2, k3, k4, k5⟩ := HB.out.free
           obtain ⟨r0, r1, r2, r3, r4, r5⟩ := HB.out.cells
           simp only at t0 t1 t2 t3 t4 t5 r0 r1 r2 r3 r4 r5
           go_upto_region 4 with fail
           generalize hW : World.setCell _ _ _ = w9
           obtain ⟨hb1, hb2⟩ := HB.out.set (d := ⟨5, 0, 0, n, (-1), .slice (some ⟨wr.heap.size, 0, none⟩) 1 1⟩) hW
           have hot := set6_other hW
           replace HA := Lib.hid (HA.out.own hb2 hot HBL.out.1)
           replace HQc := Lib.hid (HQc.out.keep (w' := w9) (fun x hx _ => hot x hx.1.2.2))
           replace HB := Lib.hid hb1
           clear hW hb1 hb2 hot t0 t1 t2 t3 t4 t5 k0 k1 k2 k3 k4 k5 r0 r1 r2 r3 r4 r5
           go_wp2_with fail
           exact ⟨⟨k + 1, _, _, t2.tail, by omega, rfl, HA.out, HB.out, HQc.out.mono (fun x h _ => h.1), HF.out⟩, by simp [intOf]; omega⟩

          | false =>
           rw [h125] at hpk
           rw [h125, if_neg (by simp)] at HBN
           have hp : (pkR t2 != 125) = true := by
            have : (pkR t2 == 125) = false := hpk
            simp [bne, this]
           clear hpk h125
           generalize pkR t2 = pk at *
           go_wp2_with fail
           refine (number_l g s t2 dp w17 HA.out.1 HS.out).mono ?_
           rintro e w18 ⟨hk, hx⟩
           clear hp
           cases hn : numPR t2 with
           | none =>
            rw [hn] at hx
            have hbad : bndP r = .bad := by rw [HBN.out, hn]
            rw [post_bad hbad] at HF
            clear hn hbad HBN
            obtain ⟨v, rfl⟩ := hx
            replace HA := Lib.hid (HA.out.2.2.1.trans hk)
            clear hk
            go_wp2_with fail
            rw [HF.out]
            exact ⟨rfl, HA.out, ⟨_, rfl⟩⟩

           | some y =>
            obtain ⟨m, t3⟩ := y
            rw [hn] at hx
            obtain ⟨rfl, hx⟩ := hx
            replace HBN : Hid (bndP r = if tkR 125 t3 then .yes n m t3.tail else .bad) := by
             unfold Hid
             rw [HBN.out, hn]
            clear hn
            dsimp only at hx
            replace HA := Lib.hid (HA.out.go hk hx)
            replace HB := Lib.hid (HB.out.pk hk (by have := HBL.out; omega))
            replace HM := Lib.hid (HM.out.pk hk (by have := HBL.out; omega))
            replace HQ := Lib.hid (HQ.out.pk hk (by have := HBL.out; omega))
            replace HP := Lib.hid (HP.out.keep (fun x hx hl => hk.keep x hx.1.2.1 hl))
            clear hk hx

            obtain ⟨k0, k1, k2, k3, k4, k5⟩ := HQ.out.free
            obtain ⟨r0, r1, r2, r3, r4, r5⟩ := HQ.out.cells
            simp only at r0 r1 r2 r3 r4 r5
            go_upto_region 17 with fail
            generalize hW : World.setCell w18 _ _ = w19
            have hbb : Below (wr.heap.size + 1) w18 w19 := hW ▸ (Below.refl _ _).setCell (p := ⟨wr.heap.size + 1, 4, none⟩) (Nat.le_refl _) _
            have hot : ∀ x, x ≠ wr.heap.size + 1 → w19.heap[x]? = w18.heap[x]? := fun x hx => hW ▸ Below.heap_setCell _ _ _ _ hx
            replace HQ := Lib.hid (show BoxP (wr.heap.size + 1) ⟨5, 0, 0, n, m, .slice (some ⟨wr.heap.size, 0, none⟩) 1 1⟩ w19 from hW ▸ heap_setCell_same w18 (wr.heap.size + 1) 4 _ _ (.int .i64 (m : Int)) HQ.out)
            replace HA := Lib.hid (HA.out.own hbb hot (by have := HBL.out; omega))
            replace HB := Lib.hid (show BoxP b ⟨q0, q1, q2, q3, q4, .slice qa pn qcap⟩ w19 from (hot b (by have := HBL.out; omega)).trans HB.out)
            replace HM := Lib.hid (show BoxP wr.heap.size ⟨q0, q1, q2, q3, q4, .slice qa pn qcap⟩ w19 from (hot wr.heap.size (by omega)).trans HM.out)
            replace HP := Lib.hid (HP.out.keep (w' := w19) (fun x hx _ => hot x (by omega)))
            clear hW hbb hot k0 k1 k2 k3 k4 k5 r0 r1 r2 r3 r4 r5

            go_wp2_with fail
            refine (need_l 125 g s t3 dp w19 HA.out.1 HS.out).mono ?_
            rintro e w20 ⟨hk, hx⟩
            cases h125 : tkR 125 t3 with
            | false =>
             rw [h125, if_neg (by simp)] at hx HBN
             rw [post_bad HBN.out] at HF
             clear h125 HBN
             obtain ⟨v, rfl⟩ := hx
             replace HA := Lib.hid (HA.out.2.2.1.trans hk)
             clear hk
             go_wp2_with fail
             rw [HF.out]
             exact ⟨rfl, HA.out, ⟨_, rfl⟩⟩

            | true =>
             rw [h125, if_pos rfl] at hx HBN
             obtain ⟨rfl, hx⟩ := hx
             rw [post_yes HBN.out] at HF
             clear h125 HBN
             replace HA := Lib.hid (HA.out.go hk hx)
             replace HB := Lib.hid (HB.out.pk hk (by have := HBL.out; omega))
             replace HM := Lib.hid (HM.out.pk hk (by have := HBL.out; omega))
             replace HQ := Lib.hid (HQ.out.pk hk (by have := HBL.out; omega))
             replace HP := Lib.hid (HP.out.keep (fun x hx hl => hk.keep x hx.1.2.1 hl))
             clear hk hx

             have HQc := Lib.hid (sng_rd (op := 5) (lo := 0) (hi := 0) (mn := n) (mx := m) (N := fun x => (w.heap.size < x ∧ x ≠ g ∧ x ≠ b) ∧ x < wr.heap.size + 1) (HP.out.mono (fun x h _ => ⟨h.1, by omega⟩)) HM.out ⟨⟨by have := HBL.out; omega, by have := HBL.out; omega, by have := HBL.out; omega⟩, by omega⟩)
             obtain ⟨t0, t1, t2, t3, t4, t5⟩ := HQ.out.cells
             obtain ⟨k0, k1, k2, k3, k4, k5⟩ := HB.out.free
             obtain ⟨r0, r1, r2, r3, r4, r5⟩ := HB.out.cells
             simp only at t0 t1 t2 t3 t4 t5 r0 r1 r2 r3 r4 r5
             go_upto_region 4 with fail
             generalize hW : World.setCell _ _ _ = w9
             obtain ⟨hb1, hb2⟩ := HB.out.set (d := ⟨5, 0, 0, n, m, .slice (some ⟨wr.heap.size, 0, none⟩) 1 1⟩) hW
             have hot := set6_other hW
             replace HA := Lib.hid (HA.out.own hb2 hot HBL.out.1)
             replace HQc := Lib.hid (HQc.out.keep (w' := w9) (fun x hx _ => hot x hx.1.2.2))
             replace HB := Lib.hid hb1
             clear hW hb1 hb2 hot t0 t1 t2 t3 t4 t5 k0 k1 k2 k3 k4 k5 r0 r1 r2 r3 r4 r5
             go_wp2_with fail
             exact ⟨⟨k + 1, _, _, t3.tail, by omega, rfl, HA.out, HB.out, HQc.out.mono (fun x h _ => h.1), HF.out⟩, by simp [intOf]; omega⟩
end Go.Proofs.YtpkecepelcppiaaGreatDoor

namespace Go.Proofs.YtpkecepelcppiaaGreatDoor
open Go.RowKit Go.Shelf
set_option maxHeartbeats 4000000
set_option maxRecDepth 100000

theorem OwnP.keep2 {N : Nat → Prop} {B : Nat} {w w' : World} {v : Value} {cs : List PC} {ps : List RX} (h : OwnP N B w v cs ps) (hk : ∀ g, (N g ∨ v.ownBlock = some g) → g < w.heap.size → w'.heap[g]? = w.heap[g]?) : OwnP N B w' v cs ps := by
 obtain ⟨ho, hlen, hr⟩ := h
 refine ⟨⟨ho.1, ?_⟩, hlen, fun i h1 h2 => (hr i h1 h2).keep (fun g hg hl => hk g (.inl hg.1) hl)⟩
 rcases ho.2 with h | ⟨g, cap, cur, rfl, hb, hg, rest⟩
 ·exact .inl h
 ·exact .inr ⟨g, cap, cur, rfl, hb, (hk g (.inr rfl) (Array.getElem?_eq_some_iff.1 hg).1).trans hg, rest⟩
theorem OwnP.node2 {N : Nat → Prop} {B : Nat} {w : World} {v : Value} {cs : List PC} {ps : List RX} (h : OwnP N B w v cs ps) (hN : ∀ g, v.ownBlock = some g → N g) (op lo hi mn mx : Int) :
  RdQ N w ⟨op, lo, hi, mn, mx, v⟩ (.mk op lo hi mn mx ps) := by
 refine .mk op lo hi mn mx ps v _ h.slx.1 (fun h0 => ?_) (fun i hi => ?_)
 ·rcases h.1.2 with ⟨rfl, h1⟩ | ⟨g, cap, cur, rfl, hb, hg, rest⟩
  ·have := h.2.1
   omega
  ·exact ⟨g, 0, _, cap, rfl, hN g rfl⟩
 ·have h1 : i < cs.length := by rw [h.2.1]; exact hi
  have := h.2.2 i h1 hi
  rw [List.getD_eq_getElem?_getD, List.getElem?_eq_getElem h1]
  exact this.mono (fun g hg _ => hg.1)
theorem OwnP.part {N : Nat → Prop} {B : Nat} {w : World} {v : Value} {cs : List PC} {ps : List RX} (h : OwnP N B w v cs ps) (i : Nat) (hi : i < ps.length) :
  ∃ g o n cap c, v = .slice (some ⟨g, o, none⟩) n cap ∧ v.ownBlock = some g ∧ n = ps.length ∧ g < w.heap.size ∧ (∀ j, j < 6 → w.cell? ⟨g, o + i * 6 + j, none⟩ = (PC.cells c)[j]?) ∧ RdQ (fun x => N x ∧ some x ≠ v.ownBlock) w c ps[i] := by
 have h1 : i < cs.length := by rw [h.2.1]; exact hi
 have hs := h.slx
 obtain ⟨a, cap, hv, s1, s2, s3, s4⟩ := hs.1
 obtain ⟨g, o, rfl, hg, hc⟩ := s4 (by omega)
 refine ⟨g, o, ps.length, cap, cs[i], hv, by rw [hv]; rfl, rfl, hg, fun j hj => ?_, h.2.2 i h1 hi⟩
 have := hc i hi j hj
 dsimp only at this
 rw [List.getD_eq_getElem?_getD, List.getElem?_eq_getElem h1] at this
 exact this
theorem OwnP.one {N : Nat → Prop} {w : World} {c : PC} {p : RX} {m : Nat} (hb : BoxP m c w) (hc : RdQ (fun x => N x ∧ x ≠ m) w c p) : OwnP N 0 w (.slice (some ⟨m, 0, none⟩) 1 1) [c] [p] := by
 obtain ⟨a, cap, hf⟩ := hc.rd.forms
 refine ⟨⟨by rfl, .inr ⟨m, 1, c.cells.toArray, rfl, Nat.zero_le _, hb, Nat.le_refl _, by decide, rfl, by simp [PC.cells]⟩⟩, rfl, fun i h1 h2 => ?_⟩
 have hi0 : i = 0 := by simp at h1; omega
 subst hi0
 refine hc.mono (fun g h _ => ⟨h.1, fun he => h.2 ?_⟩)
 cases he
 rfl
theorem own_one {m x n c : Nat} (h : (Value.slice (some ⟨m, 0, none⟩) n c).ownBlock = some x) : x = m := by
 cases h
 rfl
theorem wp_pushP2 {o : Oper} {a : Act} {w : World} {K : Act → World → Prop} {Q : Exit → Act → World → Prop} {N : Nat → Prop} {B k : Nat} {v : Value} {cs : List PC} {ps : List RX} {c : PC} {p : RX} (s x : Operand)
  (ho : o.op = .call { callee := .builtin .append, args := #[s, x], argTypes := #[43, 43] })
  (hown : OwnP N B w v cs ps) (hc : RdQ (fun g => N g ∧ some g ≠ v.ownBlock) w c p) (hs : a.eval s = v) (hx : a.eval x = .slice (some ⟨k, 0, none⟩) 1 1) (hk : k = w.heap.size) (hn : cs.length < 1000000000) (hbase : B ≤ w.heap.size)
  (h : ∀ v' w', OwnP N B w' v' (cs ++ [c]) (ps ++ [p]) → w.grownBy w' v.ownBlock → (∃ A cap, v' = .slice A (cs.length + 1) cap) → (v'.ownBlock = v.ownBlock ∨ ∃ k, w.heap.size ≤ k ∧ v'.ownBlock = some k) → K (a.put o.dst v') w') : o.wp Tryz.prog a (w.alloc (.cells c.cells.toArray 45)) K Q := by
 subst hk
 obtain ⟨ht, hsz, i, z, hi, hz, hsi, hby, hzs⟩ := elemP
 obtain ⟨A, pcap, hca⟩ := hc.rd.forms
 refine wp_append_at s x _ ho B _ i z 6 i.bytes ht hi hz hsi rfl hzs hsz v cs.length _ hs (hown.1.alloc _) ⟨w.heap.size, 0, none⟩ 1 1 c.cells hx rfl (new_cells w c.cells _) ?_ (by simp only [maxLen]; omega) (Nat.le_trans (Nat.mul_le_mul (show cs.length + 1 ≤ 1000000000 by omega) hby) (by decide)) (by simp; omega) ?_
 ·intro u hu
  unfold PC.cells at hu
  rw [hca] at hu
  simp only [List.mem_cons, List.not_mem_nil, or_false] at hu
  rcases hu with rfl | rfl | rfl | rfl | rfl | rfl <;> rfl
 ·intro v' w' hown' hg hat
  have hg' : w.grownBy w' v.ownBlock := ⟨hg.os, hg.tape, hg.output, Nat.le_trans (by simp) hg.size, fun k hk hne => (hg.block k (by simp; omega) hne).trans (heap_alloc_old w _ hk)⟩
  have hat' : v'.ownBlock = v.ownBlock ∨ ∃ k, w.heap.size ≤ k ∧ v'.ownBlock = some k := by
   rcases hat with h | h
   ·exact .inl h
   ·exact .inr ⟨_, by simp, h⟩
  refine h v' w' (hown.push hc hg' hown' hat') hg' ?_ hat'
  rcases hown'.2 with ⟨_, h0⟩ | ⟨g, cap, cur, hv, _⟩
  ·omega
  ·exact ⟨_, _, hv⟩
theorem step_pushP {ops : Array Oper} {o : Oper} {a : Act} {w : World} {K : Act → World → Prop} {Q : Exit → Act → World → Prop} {E : Prop} {N : Nat → Prop} {B k : Nat} {v : Value} {cs : List PC} {ps : List RX} {c : PC} {p : RX}
  (hgd : o.guard = none) (s x : Operand)
  (ho : o.op = .call { callee := .builtin .append, args := #[s, x], argTypes := #[43, 43] })
  (hown : OwnP N B w v cs ps) (hc : RdQ (fun g => N g ∧ some g ≠ v.ownBlock) w c p) (hs : a.eval s = v) (hx : a.eval x = .slice (some ⟨k, 0, none⟩) 1 1) (hk : k = w.heap.size) (hn : cs.length < 1000000000) (hbase : B ≤ w.heap.size)
  (h : ∀ v' w', OwnP N B w' v' (cs ++ [c]) (ps ++ [p]) → w.grownBy w' v.ownBlock → (∃ A cap, v' = .slice A (cs.length + 1) cap) → (v'.ownBlock = v.ownBlock ∨ ∃ k, w.heap.size ≤ k ∧ v'.ownBlock = some k) → K (a.put o.dst v') w') :
  if Region.wanted o (yielded ops a.tmps) = true then o.wp Tryz.prog a (w.alloc (.cells c.cells.toArray 45)) K Q else E := by
 have hw : Region.wanted o (yielded ops a.tmps) = true := by simp [Region.wanted, hgd]
 rw [if_pos hw]
 exact wp_pushP2 s x ho hown hc hs hx hk hn hbase h
end Go.Proofs.YtpkecepelcppiaaGreatDoor
