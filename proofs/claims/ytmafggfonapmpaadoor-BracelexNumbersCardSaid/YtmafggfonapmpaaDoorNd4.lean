/- decimal.Make, Parse walked. Conditions: at most 100000 bytes. -/
import Derived.Test.YtmafggfonapmpaaDoorNd3
import Derived.Test.YtmafggfonapmpaaDoorStrs
namespace Go.Proofs.YtmafggfonapmpaaDoor
open Go.RowKit
set_option maxHeartbeats 4000000
set_option maxRecDepth 100000

theorem box3 {w : World} {g : Nat} {t : TypeId} {a0 a1 a2 : Value} (h : w.heap[g]? = some (.cells #[a0, a1, a2] t (0, 0))) :
    (w.cell? ⟨g, 0, none⟩ = some a0 ∧ w.cell? ⟨g, 1, none⟩ = some a1 ∧ w.cell? ⟨g, 2, none⟩ = some a2) ∧ ∀ j, w.frozen? ⟨g, j, none⟩ = false :=
  ⟨⟨(cell_of_row w g 0 _ _ (0, 0) h).trans rfl, (cell_of_row w g 1 _ _ (0, 0) h).trans rfl, (cell_of_row w g 2 _ _ (0, 0) h).trans rfl⟩, fun j => by simp [World.frozen?, h]⟩
theorem Make_any (ng : Bool) (s : ByteArray) (x : Int) (w : World) (hs : s.size ≤ 1000000000) (hx1 : -3000000000000 ≤ x) (hx2 : x ≤ 3000000000000) (ha : (L s).all dig = true) :
    Calls Tryd.prog 27 #[.bool ng, .string s, .int .i64 x] w (DecPost w (normL ng (L s) x)) := by
  have HA := Lib.hid ha
  have HT := Lib.hid (fun w => TrimLeft0_any s w)
  have HNM : Hid (∀ (t : ByteArray) w', t.size ≤ s.size → L t = zl (L s) → Calls Tryd.prog 47 #[.bool ng, .string t, .int .i64 x] w' (DecPost w' (normL ng (L s) x))) := fun t w' ht he => by
    have := norm_any ng t x w' (by omega) hx1 hx2
    rw [he] at this
    exact this
  generalize normL ng (L s) x = r at *
  clear ha
  go_enter Tryd.func27, Tryd.ntmps27
  go_wp2_with fail
  go_loop [8, 11] (fun _ v => ∃ k : Nat, v = .int .i64 k ∧ k ≤ s.size) (fun _ v => s.size - (intOf v).toNat)
  case atStart => exact ⟨0, rfl, Nat.zero_le _⟩
  case round =>
    obtain ⟨k, rfl, hk⟩ := hrel
    by_cases hlt : k < s.size
    · obtain ⟨hd1, hd2⟩ := dig_at s k hlt HA.out
      have hd1i : ¬ ((s[k]).toNat : Int) < 48 := by omega
      have hd2i : ¬ (57 : Int) < ((s[k]).toNat : Int) := by omega
      clear hd1 hd2
      go_wp2_with fail
      exact ⟨⟨k + 1, by go_num, by omega⟩, by simp [intOf]; omega⟩
    · clear HA
      go_wp2_with fail
      refine (HT.out _).mono ?_
      rintro e w1 ⟨t, rfl, ht, rfl⟩
      have hts : t.size ≤ s.size := by have := zl_le (L s); rw [← ht, L_len, L_len] at this; exact this
      have HN := Lib.hid (fun w' => HNM.out t w' hts ht)
      clear hts ht HT HNM
      go_wp2_with fail
      refine (HN.out _).mono ?_
      rintro e w2 ⟨rfl, hb⟩
      have HB := Lib.hid (((Below.refl _ w).alloc (Nat.le_refl _) _).trans (hb.mono (by simp)))
      have hx0 := (hb.block w.heap.size (by simp)).trans (heap_alloc_new w _)
      obtain ⟨⟨y0, y1, y2⟩, yf⟩ := box3 hx0
      obtain ⟨rn, rs, re, rr⟩ := r
      clear hx0 hb HN
      go_wp2_with fail
      refine bodyPost_ret (v := decV ⟨rn, rs, re, rr⟩) (by simp [results, Tryd.results27, go_sem, y0, y1, y2]) rfl ⟨rfl, ?_⟩
      repeat refine Below.setCell ?_ (by dsimp only; omega) _
      exact HB.out
/-- A string of bytes. -/
def StrIs (v : Value) (l : List UInt8) : Prop := ∃ u : ByteArray, v = .string u ∧ L u = l
theorem pre_one {s : ByteArray} {c : UInt8} (h : pre (L s) [c] = true) : 1 ≤ s.size := by
  have h1 : (L s).take 1 = [c] := by simpa [pre] using h
  have := congrArg List.length h1
  rw [List.length_take, L_len] at this
  simp at this
  omega
theorem sz_of {u : ByteArray} {l : List UInt8} (h : L u = l) : u.size = l.length := by rw [← h, L_len]
/-- Behind the fraction: what is left, the digits, the exponent. -/
def FracRel (r : DecR) (ng : Bool) (v0 v6 v7 : Value) : Prop := ∃ (u a : ByteArray) (x : Int), v0 = .string u ∧ v6 = .string a ∧ v7 = .int .i64 x ∧ u.size ≤ 100000 ∧ a.size ≤ 200000 ∧ -100000 ≤ x ∧ x ≤ 0 ∧ (L a).all dig = true ∧ r = expoP numP ng (L a) x (L u)
/-- Behind the exponent. -/
def ExpRel (r : DecR) (ng : Bool) (a : ByteArray) (v7 : Value) : Prop := ∃ x : Int, v7 = .int .i64 x ∧ -3000000000000 ≤ x ∧ x ≤ 3000000000000 ∧ r = normL ng (L a) x
theorem Parse_any (s : ByteArray) (w : World) (hs : s.size ≤ 100000) :
    Calls Tryd.prog 12 #[.string s] w (DecPost w (decP numP (L s))) := by
  obtain ⟨r, hr⟩ : ∃ r, r = decP numP (L s) := ⟨_, rfl⟩
  rw [← hr]
  have HPR : Hid (∀ (u : ByteArray) (c : UInt8) w', u.size ≤ 100000 → Calls Tryd.prog 23 #[.string u, .string ⟨#[c]⟩] w' fun e w2 => e = .returned (.bool (pre (L u) [c])) ∧ w' = w2) := fun u c w' hu => HasPrefix_any u ⟨#[c]⟩ w' (by unfold maxLen; omega) (by show 1 ≤ maxLen; unfold maxLen; omega)
  have HRUN : Hid (∀ (u : ByteArray) w', u.size ≤ 100000 → Calls Tryd.prog 24 #[.string u] w' fun e w2 => e = .returned (.int .i64 (runL (L u))) ∧ w' = w2) := fun u w' hu => decRun_any u w' (by omega)
  have HB : Hid (∀ X, Below w.heap.size w (w.alloc X)) := fun X => (Below.refl _ _).alloc (Nat.le_refl _) _
  unfold decP at hr
  have hp1 := fun h => pre_one (s := s) (c := 45) h
  have HP0 := HPR.out s 45 (w.alloc (.cells #[.bool false, .string ⟨#[]⟩, .int .i64 0] 24)) hs
  obtain ⟨ng, hng⟩ : ∃ ng, ng = pre (L s) [45] := ⟨_, rfl⟩
  rw [← hng] at hr hp1 HP0
  clear hng
  have HP := Lib.hid HP0
  clear HP0
  obtain ⟨l1, hl1⟩ : ∃ l1, l1 = if ng then (L s).drop 1 else L s := ⟨_, rfl⟩
  rw [← hl1] at hr
  have HR := Lib.hid hr
  have HL1 := Lib.hid hl1
  have hl1s : l1.length ≤ 100000 := by have := L_len s; rw [hl1]; split <;> (first | (rw [List.length_drop]; omega) | omega)
  clear hr hl1
  go_enter Tryd.func12, Tryd.ntmps12
  go_wp2_with fail
  refine HP.out.mono ?_
  rintro e w' ⟨rfl, rfl⟩
  go_upto_if 11 with fail
  go_cut [0] (fun v wx => StrIs v l1 ∧ w.alloc (.cells #[.bool false, .string ⟨#[]⟩, .int .i64 0] 24) = wx)
  case first =>
    cases ng with
    | true =>
      have h1 := hp1 rfl
      have h1i : (1 : Int) ≤ s.size := by omega
      have HX : Hid (L (s.extract 1 s.size) = l1) := by unfold Hid; rw [HL1.out, L_from]; rfl
      clear hp1
      go_wp2_with fail
      go_meet
      exact ⟨⟨_, rfl, HX.out⟩, rfl⟩
    | false =>
      have HX : Hid (L s = l1) := HL1.out.symm
      clear hp1
      go_wp2_with fail
      go_meet
      exact ⟨⟨_, rfl, HX.out⟩, rfl⟩
  case rest =>
  obtain ⟨⟨u, rfl, hu⟩, rfl⟩ := hcut
  subst hu
  clear HL1 HP hp1
  have hus : u.size ≤ 100000 := by rw [L_len] at hl1s; exact hl1s
  have HR0 := Lib.hid (HRUN.out u (w.alloc (.cells #[.bool false, .string ⟨#[]⟩, .int .i64 0] 24)) hus)
  have hrl := runL_le (L u)
  rw [L_len] at hrl
  clear hl1s
  go_wp2_with fail
  refine HR0.out.mono ?_
  rintro e w' ⟨rfl, rfl⟩
  clear HR0
  obtain ⟨n, hn⟩ : ∃ n, n = runL (L u) := ⟨_, rfl⟩
  rw [← hn] at hrl ⊢
  unfold intP at HR
  rw [← hn] at HR
  have HERR : Hid (r = badR 3 → ∀ w', Below w.heap.size w w' → DecPost w r (.returned (.tuple #[.agg #[.bool false, .string ⟨#[]⟩, .int .i64 0], .int .i64 3])) w') := fun h w' hb => decPost_of (by rw [h]; rfl) (by decide) hb
  by_cases h0 : n = 0
  · have HF := Lib.hid (HERR.out (HR.out.trans (if_pos (.inl h0))))
    subst h0
    clear HR HERR hn
    go_wp2_with fail
    exact bodyPost_ret (v := .tuple #[.agg #[.bool false, .string ⟨#[]⟩, .int .i64 0], .int .i64 3]) (by simp [results, Tryd.results12, go_sem]) rfl (HF.out _ (HB.out _))
  have h0i : ((n : Int) == 0) = false := by rw [beq_eq_false_iff_ne]; omega
  have hu0 : 0 < u.size := by omega
  have hu0i : (0 : Int) < u.size := by omega
  have HZ0 : Hid (zero0 (L u) = decide ((u[0]).toNat = 48)) := by
    have := L_drop u 0 hu0
    rw [List.drop_zero] at this
    unfold Hid
    rw [this]
    show ((u[0]).toNat == 48) = _
    rw [Bool.eq_iff_iff, beq_iff_eq, decide_eq_true_iff]
  by_cases h1 : 1 < n ∧ (u[0]).toNat = 48
  · have HF := Lib.hid (HERR.out (HR.out.trans (if_pos (.inr ⟨h1.1, by rw [HZ0.out]; exact decide_eq_true h1.2⟩))))
    have h1i : (1 : Int) < n := by omega
    have q := b8t u[0] 48 (by omega)
    clear HR HERR hn h1 HZ0
    go_wp2_with fail
    exact bodyPost_ret (v := .tuple #[.agg #[.bool false, .string ⟨#[]⟩, .int .i64 0], .int .i64 3]) (by simp [results, Tryd.results12, go_sem]) rfl (HF.out _ (HB.out _))
  have HR1 : Hid (r = fracP numP ng ((L u).take n) ((L u).drop n)) := HR.out.trans (if_neg (fun h => h.elim h0 (fun h => h1 ⟨h.1, by have := h.2; rw [HZ0.out] at this; exact of_decide_eq_true this⟩)))
  have hT : ((1 : Int) < n) = True ∧ ((u[0].toNat : Int) == 48) = false ∨ ((1 : Int) < n) = False := by
    by_cases h : 1 < n
    · exact .inl ⟨eq_true (by omega), b8f _ _ (by intro h2; exact h1 ⟨h, by omega⟩)⟩
    · exact .inr (eq_false (by omega))
  have HT := Lib.hid hT
  have HALL : Hid ((L (u.extract 0 n)) = (L u).take n ∧ L (u.extract n u.size) = (L u).drop n) := ⟨by rw [L_extract, List.drop_zero, Nat.sub_zero], L_from u n⟩
  have HDG : Hid (((L u).take n).all dig = true) := by unfold Hid; rw [hn]; exact List.all_eq_true.2 (runL_all (L u))
  clear HR HZ0 h1 hT hn h0
  go_upto_region 5 with fail
  go_cut [26] (fun v wx => v = .bool false ∧ w.alloc (.cells #[.bool false, .string ⟨#[]⟩, .int .i64 0] 24) = wx)
  case first =>
    clear HR1 HERR HALL HDG
    rcases HT.out with ⟨q1, q2⟩ | q1
    all_goals
      clear HT
      go_wp2_with fail
      go_meet
      exact ⟨rfl, rfl⟩
  case rest =>
  obtain ⟨rfl, rfl⟩ := hcut
  clear HT hu0 hu0i h0i
  have hni : (n : Int) ≤ u.size := by omega
  go_upto_region 9 with fail
  generalize hA : u.extract 0 n = al at *
  generalize hU : u.extract n u.size = v at *
  obtain ⟨hal, hv⟩ := HALL.out
  have hals : al.size ≤ 100000 := by rw [sz_of hal, List.length_take, L_len]; omega
  have hvs : v.size ≤ 100000 := by rw [sz_of hv, List.length_drop, L_len]; omega
  replace HR1 : Hid (r = fracP numP ng (L al) (L v)) := by unfold Hid; rw [HR1.out, hal, hv]
  replace HDG : Hid ((L al).all dig = true) := by unfold Hid; rw [hal]; exact HDG.out
  clear HALL hA hU hal hv hni hrl hus
  have HP1 := Lib.hid (HPR.out v 46 (w.alloc (.cells #[.bool false, .string ⟨#[]⟩, .int .i64 0] 24)) hvs)
  have hp1 := fun h => pre_one (s := v) (c := 46) h
  unfold fracP at HR1
  obtain ⟨qf, hqf⟩ : ∃ q, q = pre (L v) [46] := ⟨_, rfl⟩
  rw [← hqf] at HR1 HP1 hp1
  clear hqf
  go_wp2_with fail
  refine HP1.out.mono ?_
  rintro e w' ⟨rfl, rfl⟩
  clear HP1
  go_upto_if 35 with fail
  go_cut [0, 6, 7] (fun v0 v6 v7 wx => FracRel r ng v0 v6 v7 ∧ w.alloc (.cells #[.bool false, .string ⟨#[]⟩, .int .i64 0] 24) = wx)
  case first =>
    cases qf with
    | false =>
      have HF : Hid (FracRel r ng (.string v) (.string al) (.int .i64 0)) := ⟨v, al, 0, rfl, rfl, rfl, hvs, by omega, by decide, by decide, HDG.out, HR1.out⟩
      clear hp1 HR1 HDG HERR
      go_wp2_with fail
      go_meet
      exact ⟨HF.out, rfl⟩
    | true =>
      replace HR1 := Lib.hid (HR1.out.trans (if_pos rfl))
      have h1 := hp1 rfl
      have h1i : (1 : Int) ≤ v.size := by omega
      clear hp1
      go_wp2_with fail
      generalize hT : v.extract 1 v.size = t at *
      have ht : L t = (L v).drop 1 := by rw [← hT, L_from]
      have hts : t.size + 1 = v.size := by have := sz_of ht; rw [List.length_drop, L_len] at this; omega
      refine (HRUN.out t _ (by omega)).mono ?_
      rintro e w' ⟨rfl, rfl⟩
      have hm := runL_le (L t)
      rw [L_len] at hm
      have HDM := Lib.hid (runL_all (L t))
      rw [← ht] at HR1
      have HLT := Lib.hid ht
      generalize runL (L t) = m at *
      clear ht hT
      by_cases h0 : m = 0
      · have HF := Lib.hid (HERR.out (HR1.out.trans (if_pos h0)))
        subst h0
        clear HR1 HERR HDG HDM
        go_wp2_with fail
        exact bodyPost_ret (v := .tuple #[.agg #[.bool false, .string ⟨#[]⟩, .int .i64 0], .int .i64 3]) (by simp [results, Tryd.results12, go_sem]) rfl (HF.out _ (HB.out _))
      have h0i : ((m : Int) == 0) = false := by rw [beq_eq_false_iff_ne]; omega
      have hmv : (m : Int) + 1 ≤ v.size := by omega
      have HF : Hid (FracRel r ng (.string (v.extract (m + 1) v.size)) (.string (al ++ v.extract 1 (m + 1))) (.int .i64 (-(m : Int)))) := by
        have e1 : L (v.extract 1 (m + 1)) = (L t).take m := by rw [L_extract, HLT.out, Nat.add_sub_cancel]
        have e2 : L (v.extract (m + 1) v.size) = (L v).drop (m + 1) := L_from v (m + 1)
        refine ⟨_, _, _, rfl, rfl, rfl, ?_, ?_, by omega, by omega, ?_, ?_⟩
        · rw [sz_of e2, List.length_drop, L_len]; omega
        · rw [← L_len, L_append, List.length_append, e1, List.length_take, L_len, L_len]; omega
        · rw [L_append, e1, List.all_append, HDG.out, Bool.true_and]
          exact List.all_eq_true.2 HDM.out
        · rw [L_append, e1, e2, HR1.out, if_neg h0]
      clear HR1 HERR HDG HDM HLT h0
      go_wp2_with fail
      go_meet
      exact ⟨HF.out, rfl⟩
  case rest =>
  clear HR1 HDG hp1 hals hvs
  obtain ⟨⟨u3, a, x, rfl, rfl, rfl, hu3, has, hx1, hx2, had, hre⟩, rfl⟩ := hcut
  have HR3 := Lib.hid hre
  have HAD := Lib.hid had
  clear hre had
  go_upto_if 55 with fail
  go_cut [7] (fun v7 wx => ExpRel r ng a v7 ∧ w.alloc (.cells #[.bool false, .string ⟨#[]⟩, .int .i64 0] 24) = wx)
  case first =>
    rcases hl : L u3 with _ | ⟨b, tl⟩
    · have hq := isEm.2 hl
      have hq2 : (!u3.toList.isEmpty) = false := by rw [hq]; rfl
      clear hq
      have HF : Hid (ExpRel r ng a (.int .i64 x)) := ⟨x, rfl, by omega, by omega, by rw [HR3.out, hl]; rfl⟩
      clear HR3 hl HAD HERR
      rw [hq2]
      clear hq2
      go_wp2_with fail
      go_meet
      exact ⟨HF.out, rfl⟩
    have hq : u3.toList.isEmpty = false := by rw [Bool.eq_false_iff]; intro h; have := isEm.1 h; rw [hl] at this; cases this
    have hq2 : (!u3.toList.isEmpty) = true := by rw [hq]; rfl
    clear hq
    have hu0 : 0 < u3.size := by have := sz_of hl; rw [List.length_cons] at this; omega
    have h1i : (1 : Int) ≤ u3.size := by omega
    have hd := L_drop u3 0 hu0
    rw [List.drop_zero] at hd
    have htl : (L u3).drop 1 = tl := by rw [hl]; rfl
    obtain ⟨hb0, -⟩ := List.cons.inj (hl.symm.trans hd)
    have HE : Hid (r = if b.toNat = 101 ∨ b.toNat = 69 then expT numP ng (L a) x tl else badR 3) := by unfold Hid; rw [HR3.out, hl]; rfl
    subst hb0
    clear HR3 hl
    rw [hq2]
    clear hq2
    by_cases c1 : (u3[0]).toNat = 101 ∨ (u3[0]).toNat = 69
    case neg =>
      have HF := Lib.hid (HERR.out (HE.out.trans (if_neg c1)))
      have q1 := b8nt u3[0] 101 (by omega)
      have q2 := b8nt u3[0] 69 (by omega)
      clear HE HERR c1 HAD htl
      go_wp2_with fail
      exact bodyPost_ret (v := .tuple #[.agg #[.bool false, .string ⟨#[]⟩, .int .i64 0], .int .i64 3]) (by simp [results, Tryd.results12, go_sem]) rfl (HF.out _ (HB.out _))
    replace HE := Lib.hid (HE.out.trans (if_pos c1))
    generalize ht : u3.extract 1 u3.size = t at *
    have htL : L t = tl := by rw [← ht, L_from, htl]
    have hts : t.size ≤ 100000 := by have h1 := sz_of htL; have h2 := congrArg List.length htl; rw [List.length_drop, L_len] at h2; omega
    have hQ : ((u3[0].toNat : Int) != 101) = false ∨ ((u3[0].toNat : Int) != 101) = true ∧ ((u3[0].toNat : Int) != 69) = false := by
      rcases c1 with h | h
      · exact .inl (b8nf _ _ (by omega))
      · exact .inr ⟨b8nt _ _ (by omega), b8nf _ _ (by omega)⟩
    have HQ := Lib.hid hQ
    subst htL
    have HT := Lib.hid ht
    clear c1 htl hQ ht
    go_upto_region 18 with fail
    go_cut [63] (fun v wx => v = .bool false ∧ w.alloc (.cells #[.bool false, .string ⟨#[]⟩, .int .i64 0] 24) = wx)
    case first =>
      clear HE HERR HAD HT
      rcases HQ.out with q1 | ⟨q1, q2⟩
      all_goals
        clear HQ
        go_wp2_with fail
        go_meet
        exact ⟨rfl, rfl⟩
    case rest =>
    obtain ⟨rfl, rfl⟩ := hcut
    clear HQ
    unfold expT at HE
    have HP5 := Lib.hid (HPR.out t 45 (w.alloc (.cells #[.bool false, .string ⟨#[]⟩, .int .i64 0] 24)) hts)
    have HP3 := Lib.hid (HPR.out t 43 (w.alloc (.cells #[.bool false, .string ⟨#[]⟩, .int .i64 0] 24)) hts)
    obtain ⟨y, hy⟩ : ∃ y, y = exsS (L t) := ⟨_, rfl⟩
    have hy2 := hy
    unfold exsS at hy2
    have hp5 := fun h => pre_one (s := t) (c := 45) h
    have hp3 := fun h => pre_one (s := t) (c := 43) h
    rw [← hy] at HE
    obtain ⟨less, hless⟩ : ∃ q, q = pre (L t) [45] := ⟨_, rfl⟩
    obtain ⟨plus, hplus⟩ : ∃ q, q = pre (L t) [43] := ⟨_, rfl⟩
    rw [← hless] at HE HP5 hy2 hp5
    rw [← hplus] at HP3 hy2 hp3
    have HY := Lib.hid hy2
    have hys : y.length ≤ 100000 := by have := L_len t; rw [hy2]; split <;> (first | (rw [List.length_drop]; omega) | omega)
    clear hless hplus hy hy2
    go_upto_region 21 with fail
    rw [HT.out]
    go_wp2_with fail
    refine HP5.out.mono ?_
    rintro e w' ⟨rfl, rfl⟩
    go_upto_region 22 with fail
    go_cut [73] (fun v wx => v = .bool (less || plus) ∧ w.alloc (.cells #[.bool false, .string ⟨#[]⟩, .int .i64 0] 24) = wx)
    case first =>
      clear HE HERR HAD HY HP5
      cases less
      · go_wp2_with fail
        refine HP3.out.mono ?_
        rintro e w' ⟨rfl, rfl⟩
        cases plus
        all_goals
          go_wp2_with fail
          go_meet
          exact ⟨rfl, rfl⟩
      · go_wp2_with fail
        go_meet
        exact ⟨rfl, rfl⟩
    case rest =>
    obtain ⟨rfl, rfl⟩ := hcut
    clear HP5 HP3
    go_upto_if 73 with fail
    go_cut [0] (fun v wx => StrIs v y ∧ w.alloc (.cells #[.bool false, .string ⟨#[]⟩, .int .i64 0] 24) = wx)
    case first =>
      clear HE HERR HAD
      have HX : Hid (L (t.extract 1 t.size) = (L t).drop 1) := L_from t 1
      have h1 : (less || plus) = true → (1 : Int) ≤ t.size := by
        intro h
        have h' : less = true ∨ plus = true := by cases less <;> cases plus <;> first | exact .inl rfl | exact .inr rfl | cases h
        rcases h' with h | h
        · have := hp5 h; omega
        · have := hp3 h; omega
      generalize (less || plus) = q at *
      cases q
      · have HF : Hid (StrIs (.string t) y) := ⟨t, rfl, by rw [HY.out]; rfl⟩
        clear HY HX h1 hp5 hp3
        go_wp2_with fail
        go_meet
        exact ⟨HF.out, rfl⟩
      · have HF : Hid (StrIs (.string (t.extract 1 t.size)) y) := ⟨_, rfl, by rw [HY.out, HX.out]; rfl⟩
        have h1i := h1 rfl
        clear HY HX h1 hp5 hp3
        go_wp2_with fail
        go_meet
        exact ⟨HF.out, rfl⟩
    case rest =>
    obtain ⟨⟨u4, rfl, hu4⟩, rfl⟩ := hcut
    subst hu4
    clear HY hp5 hp3
    have hu4s : u4.size ≤ 100000 := by rw [L_len] at hys; exact hys
    have HR4 := Lib.hid (HRUN.out u4 (w.alloc (.cells #[.bool false, .string ⟨#[]⟩, .int .i64 0] 24)) hu4s)
    rcases Classical.em (L u4 = []) with hl | hl
    · have HF := Lib.hid (HERR.out (HE.out.trans (if_pos (.inl hl))))
      have hq := isEm.2 hl
      clear HE HERR hl HAD HR4
      go_wp2_with fail
      exact bodyPost_ret (v := .tuple #[.agg #[.bool false, .string ⟨#[]⟩, .int .i64 0], .int .i64 3]) (by simp [results, Tryd.results12, go_sem]) rfl (HF.out _ (HB.out _))
    have hq : u4.toList.isEmpty = false := by rw [Bool.eq_false_iff]; exact fun h => hl (isEm.1 h)
    rcases Classical.em (runL (L u4) = u4.size) with hr | hr
    case inr =>
      have HF := Lib.hid (HERR.out (HE.out.trans (if_pos (.inr (by rw [L_len]; exact hr)))))
      have hri : ((runL (L u4) : Int) != (u4.size : Int)) = true := by rw [bne_iff_ne]; omega
      clear HE HERR hl HAD hr
      generalize runL (L u4) = m at *
      go_wp2_with fail
      refine HR4.out.mono ?_
      rintro e w' ⟨rfl, rfl⟩
      go_wp2_with fail
      exact bodyPost_ret (v := .tuple #[.agg #[.bool false, .string ⟨#[]⟩, .int .i64 0], .int .i64 3]) (by simp [results, Tryd.results12, go_sem]) rfl (HF.out _ (HB.out _))
    have HE2 := Lib.hid (HE.out.trans (if_neg (by rw [L_len]; exact fun h => h.elim hl (fun h => h hr))))
    have HDU : Hid (∀ b ∈ L u4, dig b = true) := by
      have := runL_all (L u4)
      rw [hr, List.take_of_length_le (by rw [L_len]; exact Nat.le_refl _)] at this
      exact this
    rw [hr] at HR4
    clear HE HERR hl hr
    go_wp2_with fail
    refine HR4.out.mono ?_
    rintro e w' ⟨rfl, rfl⟩
    clear HR4
    have HTL := Lib.hid (fun w' => TrimLeft0_any u4 w')
    go_wp2_with fail
    refine (HTL.out _).mono ?_
    rintro e w' ⟨t5, rfl, ht5, rfl⟩
    have ht5s : t5.size ≤ 100000 := by have h1 := zl_le (L u4); have h2 := sz_of ht5; rw [L_len] at h1; omega
    have hnat : t5.size ≤ 12 → natB (L t5) = true := by
      intro h12
      unfold natB
      rw [Bool.and_eq_true, Bool.and_eq_true, decide_eq_true_iff, decide_eq_true_iff]
      refine ⟨by rw [L_len]; omega, ?_, ?_⟩
      · rw [ht5]; exact List.all_eq_true.2 (zl_all _ HDU.out)
      · rw [ht5]
        rcases hz : zl (L u4) with _ | ⟨b, tl⟩
        · simp
        · have := zl_head _ _ _ hz
          simpa using this
    have HMV := Lib.hid (fun w' => moved_any x less t5 (L u4) w' hx1 hx2 (by omega) ht5 hnat)
    have hfar : -3000000000000 ≤ movE x less (numP (L u4)) ∧ movE x less (numP (L u4)) ≤ 3000000000000 := by
      have hn : 0 ≤ numP (L u4) ∧ numP (L u4) ≤ 1099511627776 := by
        unfold numP
        split
        · rename_i h
          have h1 := valL_lt (zl (L u4)) 0 (zl_all _ HDU.out)
          have h3 : (10 : Nat) ^ (zl (L u4)).length ≤ 10 ^ 12 := Nat.pow_le_pow_right (by decide) h
          have h4 : (10 : Nat) ^ 12 = 1000000000000 := by decide
          omega
        · omega
      unfold movE
      split <;> omega
    have HF : Hid (ExpRel r ng a (.int .i64 (movE x less (numP (L u4))))) := ⟨_, rfl, hfar.1, hfar.2, HE2.out⟩
    clear hnat hfar HE2 HDU HTL HAD
    generalize movE x less (numP (L u4)) = z at *
    go_wp2_with fail
    refine (HMV.out _).mono ?_
    rintro e w' ⟨rfl, rfl⟩
    go_wp2_with fail
    go_meet
    exact ⟨HF.out, rfl⟩
  case rest =>
    obtain ⟨⟨y, rfl, hy1, hy2, hre⟩, rfl⟩ := hcut
    have HM := Lib.hid (fun w' => Make_any ng a y w' (by omega) hy1 hy2 HAD.out)
    rw [← hre] at HM
    clear HR3 HAD HERR hre
    go_wp2_with fail
    refine (HM.out _).mono ?_
    rintro e w2 ⟨rfl, hb⟩
    have HB2 := Lib.hid (((Below.refl _ w).alloc (Nat.le_refl _) _).trans (hb.mono (by simp)))
    have hx0 := (hb.block w.heap.size (by simp)).trans (heap_alloc_new w _)
    obtain ⟨⟨y0, y1, y2⟩, yf⟩ := box3 hx0
    obtain ⟨rn, rs, re, rr⟩ := r
    clear hx0 hb HM
    go_wp2_with fail
    refine bodyPost_ret (v := decV ⟨rn, rs, re, rr⟩) (by simp [results, Tryd.results12, go_sem, y0, y1, y2]) rfl ⟨rfl, ?_⟩
    repeat refine Below.setCell ?_ (by dsimp only; omega) _
    exact HB2.out
end Go.Proofs.YtmafggfonapmpaaDoor
