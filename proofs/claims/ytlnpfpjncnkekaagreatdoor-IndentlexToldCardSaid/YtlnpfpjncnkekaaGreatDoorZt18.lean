/- datakitref21.Lines walked. Conditions: strings of at most 10^10 bytes. -/
import Derived.Test.YtlnpfpjncnkekaaGreatDoorZt14
import Derived.Test.YtlnpfpjncnkekaaGreatDoorZt16
import Derived.Test.YtlnpfpjncnkekaaGreatDoorZt9
namespace Go.Proofs.YtlnpfpjncnkekaaGreatDoor
open Go.RowKit
set_option maxHeartbeats 4000000
set_option maxRecDepth 100000

theorem trimS_one (l : List UInt8) (c : UInt8) : Lib.trimSuffix l [c] = if l.getLast? = some c then l.take (l.length - 1) else l := by
  unfold Lib.trimSuffix Lib.hasSuffix
  rcases List.eq_nil_or_concat l with rfl | ⟨t, x, rfl⟩
  · rfl
  · have e : (t.concat x).getLast? = some x := by simp
    rw [e]
    by_cases h : x = c
    · subst h
      simp
    · rw [if_neg (fun hh => h (Option.some.inj hh)), if_neg]
      simp
      exact fun hh => h hh.symm
theorem body_take (l : List UInt8) : l.take (bodyN l) = if l.getLast? = some 10 then Lib.trimSuffix (Lib.trimSuffix l [10]) [13] else l := by
  unfold bodyN
  by_cases h : l.getLast? = some 10
  · rw [if_pos h, if_pos h, trimS_one l, if_pos h, trimS_one]
    generalize hn : l.length = n at *
    have hl1 : (l.take (n - 1)).length = n - 1 := by rw [List.length_take]; omega
    have hg : (l.take (n - 1)).getLast? = if 2 ≤ n then l[n - 2]? else none := by
      rw [List.getLast?_eq_getElem?, hl1, List.getElem?_take]
      by_cases h2 : 2 ≤ n
      · rw [if_pos h2, if_pos (by omega), show n - 1 - 1 = n - 2 by omega]
      · rw [if_neg h2, if_neg (by omega)]
    rw [hg, hl1]
    by_cases h2 : 2 ≤ n
    · rw [if_pos h2]
      by_cases h13 : l[n - 2]? = some 13
      · rw [if_pos ⟨h2, h13⟩, if_pos h13, List.take_take, show min (n - 1 - 1) (n - 1) = n - 2 by omega]
      · rw [if_neg (fun h => h13 h.2), if_neg h13]
    · rw [if_neg h2, if_neg (fun h => h2 h.1), if_neg (by intro h; cases h)]
  · rw [if_neg h, if_neg h, List.take_length]
theorem spc_drop (l : List UInt8) : l.drop (spcN l) = Lib.trimLeftB l 32 := by
  unfold Lib.trimLeftB
  induction l with
  | nil => rfl
  | cons b t ih =>
    rw [spcN, List.dropWhile_cons]
    by_cases hb : b = 32
    · rw [if_pos hb, if_pos (by rw [hb]; rfl), ← ih, Nat.add_comm, List.drop_succ_cons]
    · rw [if_neg hb, if_neg (by simpa using hb), List.drop_zero]
/-- A line's cells. -/
def lnC (x : Ln) : List Value := [.int .i64 (x.ind : Int), .string ⟨x.text.toArray⟩, .string ⟨x.com.toArray⟩, .string ⟨x.fin.toArray⟩, .int .i64 (x.pos : Int)]
abbrev ln0 : List Value := [.int .i64 0, .string ⟨#[]⟩, .string ⟨#[]⟩, .string ⟨#[]⟩, .int .i64 0]
theorem stLn : StT Tryz.prog 47 5 := ⟨by kernel_rfl, by kernel_rfl⟩
theorem stS1 : (Tryz.prog.info? 9).map (·.size) = some 1 := by kernel_rfl
theorem stI1 : (Tryz.prog.info? 3).map (·.size) = some 1 := by kernel_rfl
theorem mk_of {t : ByteArray} {l : List UInt8} (h : L t = l) : (⟨l.toArray⟩ : ByteArray) = t := by
  apply L_inj
  rw [L_mk, h]
/-- The result's box and the line's. -/
structure LB (w w' : World) (cs : List Value) : Prop where
  b : Below w.heap.size w w'
  x1 : w'.heap[w.heap.size]? = some (.cells ln0.toArray 47 (0, 0))
  x2 : w'.heap[w.heap.size + 1]? = some (.cells cs.toArray 47 (0, 0))
theorem LB.lt {w w' : World} {cs : List Value} (h : LB w w' cs) : w.heap.size + 1 < w'.heap.size := (Array.getElem?_eq_some_iff.1 h.x2).1
theorem LB.below {w w' w2 : World} {cs : List Value} (h : LB w w' cs) (hb : Below w'.heap.size w' w2) : LB w w2 cs := by
  have := h.lt
  exact ⟨h.b.trans (hb.mono h.b.size), (hb.block _ (by omega)).trans h.x1, (hb.block _ (by omega)).trans h.x2⟩
theorem LB.set {w w' w2 : World} {cs c2 : List Value} (h : LB w w' cs) (hW : w'.setRow (w.heap.size + 1) c2.toArray = w2) : LB w w2 c2 := by
  obtain ⟨h1, h2, h3, h4⟩ := setRow_of hW h.x2
  exact ⟨h.b.trans (h4 _ (by omega)), (h2 _ (by omega)).trans h.x1, h1⟩
theorem drewB1 (w : World) : Below w.heap.size w w.drew := ⟨rfl, rfl, rfl, Nat.le_refl _, fun _ _ => rfl⟩
theorem one5 (a e : Int) (b c d : ByteArray) : ∀ u ∈ [Value.int .i64 a, .string b, .string c, .string d, .int .i64 e], u.oneCell' = true := by
  intro u hu
  simp only [List.mem_cons, List.not_mem_nil, or_false] at hu
  rcases hu with rfl | rfl | rfl | rfl | rfl <;> rfl
theorem row5 {w : World} {g : Nat} {t : TypeId} {a b c d e : Value} (h : w.heap[g]? = some (.cells [a, b, c, d, e].toArray t (0, 0))) :
    w.cell? ⟨g, 0, none⟩ = some a ∧ w.cell? ⟨g, 1, none⟩ = some b ∧ w.cell? ⟨g, 2, none⟩ = some c ∧ w.cell? ⟨g, 3, none⟩ = some d ∧ w.cell? ⟨g, 4, none⟩ = some e :=
  ⟨(cell_of_row w g _ _ t (0, 0) h).trans rfl, (cell_of_row w g _ _ t (0, 0) h).trans rfl, (cell_of_row w g _ _ t (0, 0) h).trans rfl, (cell_of_row w g _ _ t (0, 0) h).trans rfl, (cell_of_row w g _ _ t (0, 0) h).trans rfl⟩
theorem divide_any (s : ByteArray) (w : World) (hs : s.size ≤ 100000000000) (hT : TabU w) :
    Calls Tryz.prog 37 #[.string s] w fun e w' => e = .returned (.agg (lnC (lineP (L s) 0)).toArray) ∧ Below w.heap.size w w' := by
  have hm : s.size ≤ maxLen := by simp only [maxLen]; omega
  have hm2 : s.size ≤ 9223372036854775807 := by omega
  have HT := Lib.hid hT
  clear hT
  obtain ⟨nb, hnb⟩ : ∃ nb, nb = bodyN (L s) := ⟨_, rfl⟩
  have hnl : nb ≤ s.size := by rw [hnb, ← L_len]; exact bodyN_le _
  have HNB := Lib.hid hnb
  clear hnb
  obtain ⟨t1, ht1⟩ : ∃ t1 : ByteArray, (⟨(Lib.trimSuffix s.data.toList [10]).toArray⟩ : ByteArray) = t1 := ⟨_, rfl⟩
  have hl1 : L t1 = Lib.trimSuffix (L s) [10] := by rw [← ht1]; rfl
  obtain ⟨t2, ht2⟩ : ∃ t2 : ByteArray, (⟨(Lib.trimSuffix t1.data.toList [13]).toArray⟩ : ByteArray) = t2 := ⟨_, rfl⟩
  have hl2 : L t2 = Lib.trimSuffix (L t1) [13] := by rw [← ht2]; rfl
  have hz1 : t1.size ≤ s.size := by
    rw [← L_len t1, hl1, ← L_len s, trimS_one]
    split
    · rw [List.length_take]; omega
    · exact Nat.le_refl _
  have HT1 := Lib.hid (fun w' => Tryz.strings_TrimSuffix s ⟨#[10]⟩ w' hm2)
  have HT2 := Lib.hid (fun w' => Tryz.strings_TrimSuffix t1 ⟨#[13]⟩ w' (by omega))
  dsimp only at HT1 HT2
  rw [ht1] at HT1
  rw [ht2] at HT2
  obtain ⟨rs, hrs⟩ : ∃ rs : ByteArray, rs = s.extract 0 nb := ⟨_, rfl⟩
  have hlr : L rs = (L s).take nb := by rw [hrs, L_upto]
  have hzr : rs.size = nb := by rw [← L_len, hlr, List.length_take, L_len]; omega
  have HCA : Hid (((L s).getLast? = some 10 → t1.size < s.size ∧ t2 = rs) ∧ ((L s).getLast? ≠ some 10 → t1.size = s.size ∧ t1 = rs)) := by
    have hb := body_take (L s)
    rw [← HNB.out, ← hlr] at hb
    constructor
    · intro h
      rw [if_pos h, ← hl1, ← hl2] at hb
      refine ⟨?_, (L_inj hb).symm⟩
      rw [← L_len t1, hl1, trimS_one, if_pos h, List.length_take, L_len]
      have : s.size ≠ 0 := by
        intro h0
        have h1 : L s = [] := List.eq_nil_of_length_eq_zero (by rw [L_len]; exact h0)
        rw [h1] at h
        cases h
      omega
    · intro h
      rw [if_neg h] at hb
      have h1 : L t1 = L s := by rw [hl1, trimS_one, if_neg h]
      exact ⟨by rw [← L_len t1, h1, L_len], L_inj (h1.trans hb.symm)⟩
  clear ht1 hl1 ht2 hl2 hrs
  go_enter Tryz.func37, Tryz.ntmps37
  go_upto_region 2 with fail
  generalize hW1 : World.alloc w _ = w1
  obtain ⟨ha1, -, hz1', hb1⟩ := alloc_of hW1
  generalize hW2 : World.alloc w1 _ = w2
  obtain ⟨ha2, -, hz2', hb2⟩ := alloc_of hW2
  have HLB : Hid (LB w w2 ln0) := ⟨hb1.trans (hb2.mono (by omega)), (hb2.block _ (by omega)).trans ha1, by rw [← hz1']; exact ha2⟩
  clear hW1 hW2 ha1 ha2 hb1 hb2 hz1' hz2'
  go_cut [4] (fun v wx => v = .string t1 ∧ w2 = wx)
  case first =>
    go_wp2_with (go_at_call 81; refine (HT1.out _).mono ?_; rintro e w' ⟨rfl, rfl⟩)
    go_meet
    exact ⟨rfl, rfl⟩
  case rest =>
  obtain ⟨hv, rfl⟩ := hcut
  subst hv
  go_upto_if 13 with fail
  go_cut [4] (fun v wx => v = .string rs ∧ w2 = wx)
  case first =>
    by_cases hl : (L s).getLast? = some 10
    case pos =>
      obtain ⟨h1, h2⟩ := HCA.out.1 hl
      have h1i : (t1.size : Int) < (s.size : Int) := by omega
      have H2 := Lib.hid h2
      clear h1 h2 hl
      go_wp2_with (go_at_call 81; refine (HT2.out _).mono ?_; rintro e w' ⟨rfl, rfl⟩)
      go_meet
      exact ⟨by rw [H2.out], rfl⟩
    case neg =>
      obtain ⟨h1, h2⟩ := HCA.out.2 hl
      have h1i : ¬ (t1.size : Int) < (s.size : Int) := by omega
      have H2 := Lib.hid h2
      clear h1 h2 hl
      go_wp2_with fail
      go_meet
      exact ⟨by rw [H2.out], rfl⟩
  case rest =>
  obtain ⟨hv, rfl⟩ := hcut
  subst hv
  clear HCA HT1 HT2 hz1
  obtain ⟨ct, hct⟩ : ∃ ct : ByteArray, (⟨(Lib.trimLeftB rs.data.toList 32).toArray⟩ : ByteArray) = ct := ⟨_, rfl⟩
  have hlc : L ct = contL (L s) := by
    rw [← hct]
    show Lib.trimLeftB (L rs) 32 = _
    unfold contL
    rw [← HNB.out, ← hlr, spc_drop]
  have hzc : ct.size = nb - spcN ((L s).take nb) := by rw [← L_len, hlc, contL, List.length_drop, List.length_take, L_len, ← HNB.out]; omega
  have hsp := spcN_le ((L s).take nb)
  rw [List.length_take, L_len] at hsp
  have HTL := Lib.hid (fun w' => Tryz.strings_TrimLeft_one rs 32 (by decide) w')
  rw [hct] at HTL
  have hrle : rs.size ≤ s.size := by omega
  have hcle : ct.size ≤ rs.size := by omega
  have HCS := Lib.hid (fun w' hT => hash_any ct w' (by omega) hT)
  have HLC := Lib.hid hlc
  have HLR := Lib.hid hlr
  have HZR := Lib.hid hzr
  have HSP : Hid (rs.size - ct.size = spcN ((L s).take nb)) := by unfold Hid; omega
  clear hct hlc hzc hsp hlr hzr
  go_upto_region 6 with (refine wpl_store rfl rfl stS1 rfl rfl (cs := [.string (s.extract rs.size s.size)]) rfl rfl (by intro u hu; rw [List.mem_singleton.1 hu]; rfl) HLB.out.x2 (by decide) (row := [.int .i64 0, .string ⟨#[]⟩, .string ⟨#[]⟩, .string (s.extract rs.size s.size), .int .i64 0]) rfl ?_; generalize hW4 : World.setRow _ _ _ = w3; have HL3 := Lib.hid (HLB.out.set hW4); clear hW4)
  clear HLB
  have hd0 : (0 : Int) ≤ (rs.size : Int) - (ct.size : Int) := by omega
  go_upto_region 8 with (first
    | (go_at_call 71; refine (HTL.out _).mono ?_; rintro e w' ⟨rfl, rfl⟩)
    | (refine wpl_store rfl rfl stI1 rfl rfl (cs := [.int .i64 ((rs.size : Int) - (ct.size : Int))]) rfl rfl (by intro u hu; rw [List.mem_singleton.1 hu]; rfl) HL3.out.x2 (Nat.le_of_ble_eq_true rfl) (row := [.int .i64 ((rs.size : Int) - (ct.size : Int)), .string ⟨#[]⟩, .string ⟨#[]⟩, .string (s.extract rs.size s.size), .int .i64 0]) rfl ?_; generalize hW4 : World.setRow _ _ _ = w4; have HL4 := Lib.hid (HL3.out.set hW4); clear hW4))
  clear HL3 HTL
  go_wp2_with fail
  refine (HCS.out _ (HT.out.below HL4.out.b)).mono ?_
  rintro e w5 ⟨rfl, hb⟩
  have HL5 := Lib.hid (HL4.out.below hb)
  clear hb HL4 HCS
  have hhl := hashW_len 32 (L ct)
  rw [L_len] at hhl
  generalize hh : hashW 32 (L ct) = hn at *
  obtain ⟨cn, hcn⟩ : ∃ cn, cn = backS (L ct) hn := ⟨_, rfl⟩
  have hcl : cn ≤ ct.size := by rw [hcn]; exact Nat.le_trans (backS_le _ _) hhl
  have HC0 := Lib.hid hcn
  have HCN : Hid (cn = contN (L s)) := by unfold Hid contN; rw [hcn, ← HLC.out, hh]
  clear hh hcn
  go_upto_block 0 with fail
  go_cut [6] (fun v wx => v = .int .i64 (cn : Int) ∧ LB w wx [.int .i64 ((rs.size : Int) - (ct.size : Int)), .string ⟨#[]⟩, .string ⟨#[]⟩, .string (s.extract rs.size s.size), .int .i64 0])
  case first =>
    go_wp2_with fail
    go_loopw [6] (fun ev wr => ∃ n : Nat, ev = .int .i64 (n : Int) ∧ n ≤ ct.size ∧ Hid (cn = backS (L ct) n) ∧ Hid (LB w wr [.int .i64 ((rs.size : Int) - (ct.size : Int)), .string ⟨#[]⟩, .string ⟨#[]⟩, .string (s.extract rs.size s.size), .int .i64 0])) (fun ev _ => (intOf ev).toNat)
    case atStart => exact ⟨hn, rfl, hhl, HC0.out, HL5.out⟩
    case round =>
      clear HC0 HL5 hhl
      obtain ⟨n, rfl, hn', HC, HLr⟩ := hrel
      cases n with
      | zero =>
        have HF : Hid (cn = 0) := HC.out
        clear HC
        have e0 : ((0 : Nat) : Int) = 0 := rfl
        rw [e0]
        clear e0
        go_wp2_with fail
        go_meet
        exact ⟨by rw [HF.out]; rfl, HLr.out⟩
      | succ m =>
        have hlt : m < ct.size := by omega
        have hst := HC.out
        rw [backS, List.getElem?_eq_getElem (by rw [L_len]; exact hlt)] at hst
        have hget : (L ct)[m]'(by rw [L_len]; exact hlt) = ct[m] := rfl
        rw [hget] at hst
        have e1 : ((m + 1 : Nat) : Int) = (m : Int) + 1 := by omega
        rw [e1]
        clear e1 hget
        have hm0 : (0 : Int) ≤ (m : Int) := by omega
        by_cases h32 : ct[m] = 32
        case pos =>
          rw [if_pos (by rw [h32])] at hst
          have hq := beqB ct[m] 32 (by rw [h32]; rfl)
          have HN : Hid (cn = backS (L ct) m) := hst
          clear hst h32 HC
          go_wp2_with fail
          exact ⟨⟨m, rfl, by omega, HN.out, HLr.out⟩, by simp [intOf]⟩
        case neg =>
          rw [if_neg (fun h => h32 (Option.some.inj h))] at hst
          have hq := beqNB ct[m] 32 (fun h => h32 (UInt8.toNat_inj.1 (show ct[m].toNat = 32 by omega)))
          have HF : Hid (cn = m + 1) := hst
          clear hst h32 HC
          go_wp2_with fail
          go_meet
          exact ⟨by rw [HF.out]; rfl, HLr.out⟩
  case rest =>
  obtain ⟨hv, hlb⟩ := hcut
  subst hv
  clear HC0 HL5 hhl
  have HLB := Lib.hid hlb
  clear hlb
  have hcn0 : (0 : Int) ≤ (cn : Int) := by omega
  have hcn1 : (cn : Int) ≤ (ct.size : Int) := by omega
  go_upto_region 11 with fail
  refine wp_region_held_drew (S := fun _ => True) (by kernel_rfl) trivial (fun hHeld => ?_)
  replace HLB := Lib.hid (HLB.out.below (drewB1 wc))
  generalize wc.drew = wd at *
  refine take_at 0 (some 42) rfl rfl (by kernel_rfl) (by kernel_rfl) (by kernel_rfl) (fun _ _ _ h => h) (Or.inl ⟨by rfl, fun w hSw => by (clear hSw; go_simp; with_reducible rfl)⟩) hHeld ?_
  simp only [Act.put, List.setIfInBounds_toArray, List.set_cons_zero, List.set_cons_succ]
  refine take_at 1 (some 43) rfl rfl (by kernel_rfl) (by kernel_rfl) (by kernel_rfl) (fun _ _ _ h => h) (Or.inl ⟨by rfl, fun w hSw => by (clear hSw; go_simp; with_reducible rfl)⟩) hHeld ?_
  simp only [Act.put, List.setIfInBounds_toArray, List.set_cons_zero, List.set_cons_succ]
  refine take_at 2 (some 44) rfl rfl (by kernel_rfl) (by kernel_rfl) (by kernel_rfl) (fun _ _ _ h => h) (Or.inl ⟨by rfl, fun w hSw => by (clear hSw; go_simp; with_reducible rfl)⟩) hHeld ?_
  simp only [Act.put, List.setIfInBounds_toArray, List.set_cons_zero, List.set_cons_succ]
  refine take_at 3 (some 45) rfl rfl (by kernel_rfl) (by kernel_rfl) (by kernel_rfl) (fun _ _ _ h => h) (Or.inl ⟨by rfl, fun w hSw => by (clear hSw; go_simp; with_reducible rfl)⟩) hHeld ?_
  simp only [Act.put, List.setIfInBounds_toArray, List.set_cons_zero, List.set_cons_succ]
  refine take_at 4 (some 46) rfl rfl (by kernel_rfl) (by kernel_rfl) (by kernel_rfl) (fun _ _ _ h => h) (Or.inl ⟨by rfl, fun w hSw => by (clear hSw; go_simp; with_reducible rfl)⟩) hHeld ?_
  simp only [Act.put, List.setIfInBounds_toArray, List.set_cons_zero, List.set_cons_succ]
  refine take_at 5 (some 47) rfl rfl (by kernel_rfl) (by kernel_rfl) (by kernel_rfl) (fun _ _ _ h => h) (Or.inl ⟨by rfl, fun w hSw => by (clear hSw; go_simp; with_reducible rfl)⟩) hHeld ?_
  simp only [Act.put, List.setIfInBounds_toArray, List.set_cons_zero, List.set_cons_succ]
  refine take_at 6 (some 48) rfl rfl (by kernel_rfl) (by kernel_rfl) (by kernel_rfl) (fun _ _ _ h => h) (Or.inl ⟨by rfl, fun w hSw => by (clear hSw; go_simp; with_reducible rfl)⟩) hHeld ?_
  simp only [Act.put, List.setIfInBounds_toArray, List.set_cons_zero, List.set_cons_succ]
  refine wpAnyH_ready (rs := [7]) (by kernel_rfl) (by simp) ?_
  refine AllReadyH.cons rfl (fun K hK => ?_) AllReadyH.nil
  refine step_store (row := [.int .i64 ((rs.size : Int) - (ct.size : Int)), .string (ct.extract 0 cn), .string ⟨#[]⟩, .string (s.extract rs.size s.size), .int .i64 0]) rfl _ _ rfl stS1 (w.heap.size + 1) 1 rfl rfl (cs := [.string (ct.extract 0 cn)]) rfl rfl (by intro u hu; rw [List.mem_singleton.1 hu]; rfl) HLB.out.x2 (Nat.le_of_ble_eq_true rfl) rfl ?_
  generalize hW4 : World.setRow _ _ _ = w7
  replace HLB := Lib.hid (HLB.out.set hW4)
  clear hW4 hHeld
  refine hK.out _ _ trivial (fun hHeld => ?_)
  clear hK K
  refine take_at 8 (some 49) rfl rfl (by kernel_rfl) (by kernel_rfl) (by kernel_rfl) (fun _ _ _ h => h) (Or.inl ⟨by rfl, fun w hSw => by (clear hSw; go_simp; with_reducible rfl)⟩) hHeld ?_
  simp only [Act.put, List.setIfInBounds_toArray]
  refine wpAnyH_ready (rs := [9]) (by kernel_rfl) (by simp) ?_
  refine AllReadyH.cons rfl (fun K hK => ?_) AllReadyH.nil
  refine step_store (row := [.int .i64 ((rs.size : Int) - (ct.size : Int)), .string (ct.extract 0 cn), .string (ct.extract cn ct.size), .string (s.extract rs.size s.size), .int .i64 0]) rfl _ _ rfl stS1 (w.heap.size + 1) 2 rfl rfl (cs := [.string (ct.extract cn ct.size)]) rfl rfl (by intro u hu; rw [List.mem_singleton.1 hu]; rfl) HLB.out.x2 (Nat.le_of_ble_eq_true rfl) rfl ?_
  generalize hW4 : World.setRow _ _ _ = w8
  replace HLB := Lib.hid (HLB.out.set hW4)
  clear hW4 hHeld
  refine hK.out _ _ trivial (fun hHeld => ?_)
  clear hK K
  clear hHeld
  refine wpAnyH_done (by kernel_rfl) ?_ _
  go_simp
  have HCL : Hid (∀ j, j < 5 → w8.cell? ⟨w.heap.size + 1, 0 + j, none⟩ = ([.int .i64 ((rs.size : Int) - (ct.size : Int)), .string (ct.extract 0 cn), .string (ct.extract cn ct.size), .string (s.extract rs.size s.size), .int .i64 0] : List Value)[j]?) := by
    intro j hj
    rw [Nat.zero_add, cell_of_row _ _ _ _ _ _ HLB.out.x2, List.getElem?_toArray]
  have HX1 := Lib.hid HLB.out.x1
  have HBW := Lib.hid HLB.out.b
  go_wp2_with (first
    | refine wpl_load rfl rfl stLn rfl (cs := [.int .i64 ((rs.size : Int) - (ct.size : Int)), .string (ct.extract 0 cn), .string (ct.extract cn ct.size), .string (s.extract rs.size s.size), .int .i64 0]) rfl HCL.out ?_
    | (refine wpl_store rfl rfl stLn.2 rfl rfl (cs := [.int .i64 ((rs.size : Int) - (ct.size : Int)), .string (ct.extract 0 cn), .string (ct.extract cn ct.size), .string (s.extract rs.size s.size), .int .i64 0]) rfl rfl (one5 _ _ _ _ _) HX1.out (Nat.le_refl 5) (row := [.int .i64 ((rs.size : Int) - (ct.size : Int)), .string (ct.extract 0 cn), .string (ct.extract cn ct.size), .string (s.extract rs.size s.size), .int .i64 0]) rfl ?_; generalize hW9 : World.setRow _ _ _ = w9; obtain ⟨hd9, hk9, hz9, hb9⟩ := setRow_of hW9 HX1.out; clear hW9; refine RowKit.Hid.out ?_))
  unfold RowKit.Hid
  repeat go_step
  obtain ⟨z0, z1, z2, z3, z4⟩ := row5 hd9
  have HE : Hid ([Value.int .i64 ((rs.size : Int) - (ct.size : Int)), .string (ct.extract 0 cn), .string (ct.extract cn ct.size), .string (s.extract rs.size s.size), .int .i64 0] = lnC (lineP (L s) 0)) := by
    unfold Hid lnC lineP
    rw [← HNB.out, ← HCN.out, ← HLC.out]
    have e1 : ((rs.size : Int) - (ct.size : Int)) = ((spcN ((L s).take nb) : Nat) : Int) := by have := HSP.out; omega
    rw [e1, mk_of (L_upto ct cn), mk_of (L_from ct cn), mk_of (t := s.extract rs.size s.size) (by rw [L_from, HZR.out])]
    rfl
  refine bodyPost_ret (v := .agg #[.int .i64 ((rs.size : Int) - (ct.size : Int)), .string (ct.extract 0 cn), .string (ct.extract cn ct.size), .string (s.extract rs.size s.size), .int .i64 0]) (by simp [results, Tryz.results37, go_sem, z0, z1, z2, z3, z4]) rfl ⟨?_, HBW.out.trans (hb9 _ (Nat.le_refl _))⟩
  rw [← HE.out]
end Go.Proofs.YtlnpfpjncnkekaaGreatDoor

namespace Go.Proofs.YtlnpfpjncnkekaaGreatDoor
open Go.RowKit
set_option maxHeartbeats 4000000
set_option maxRecDepth 100000

/-- The lines, each with where it begins. -/
def lnV : Nat → List ByteArray → List Ln
  | _, [] => []
  | pos, b :: t => lineP (L b) pos :: lnV (pos + b.size) t
def linesR (s : ByteArray) : List Ln × Nat × Nat := if 1048576 < s.size then ([], 0, 10) else if badL (L s) < s.size then ([], badL (L s), 5) else (lnV 0 (lnsB s), 0, 0)
theorem lnF_small (s : ByteArray) : ∀ (f fr k : Nat), k ≤ s.size → ∀ b ∈ lnF s f fr k, b.size ≤ s.size := by
  have key : ∀ a b, (s.extract a b).size ≤ s.size := by
    intro a b
    rw [← L_len, L_extract, List.length_take, List.length_drop, L_len]
    omega
  intro f
  induction f with
  | zero =>
    intro fr k hk b hb
    rw [lnF] at hb
    split at hb
    · rw [List.mem_singleton.1 hb]; exact key _ _
    · cases hb
  | succ f ih =>
    intro fr k hk b hb
    rw [lnF] at hb
    split at hb
    · rename_i hlt
      split at hb
      · rcases List.mem_cons.1 hb with rfl | hb
        · exact key _ _
        · exact ih _ _ hlt b hb
      · exact ih _ _ hlt b hb
    · split at hb
      · rw [List.mem_singleton.1 hb]; exact key _ _
      · cases hb
theorem lnF_len (s : ByteArray) : ∀ (f fr k : Nat), (lnF s f fr k).length ≤ f + 1 := by
  intro f
  induction f with
  | zero =>
    intro fr k
    rw [lnF]
    split <;> simp
  | succ f ih =>
    intro fr k
    rw [lnF]
    split
    · split
      · rw [List.length_cons]
        have := ih (k + 1) (k + 1)
        omega
      · have := ih fr (k + 1)
        omega
    · split <;> simp
/-- What Lines hands back. -/
def LinesPost (w : World) (x : List Ln × Nat × Nat) (e : Ending) (w' : World) : Prop := ∃ v, e = .returned (.tuple #[v, .int .i64 (x.2.1 : Nat), .int .i64 (x.2.2 : Nat)]) ∧ (∃ base, w.heap.size ≤ base ∧ w'.ownsRow base 47 5 v x.1.length (x.1.flatMap lnC)) ∧ Below w.heap.size w w'
theorem own_cells {w : World} {base n : Nat} {e : TypeId} {v : Value} {xs : List Value} (h : w.ownsRow base e 1 v n xs) : ∃ a cap, v = .slice a n cap ∧ (0 < n → ∃ g, a = some ⟨g, 0, none⟩ ∧ g < w.heap.size ∧ ∀ j, j < n → w.cell? ⟨g, j, none⟩ = xs[j]?) := by
  rcases h.2 with ⟨rfl, h0⟩ | ⟨g, cap, cur, rfl, hb, hg, -⟩
  · subst h0
    exact ⟨_, _, rfl, fun h => absurd h (Nat.lt_irrefl _)⟩
  · exact ⟨_, _, rfl, fun _ => ⟨g, rfl, (Array.getElem?_eq_some_iff.1 hg).1, fun j hj => h.cellAt j (by omega)⟩⟩
theorem elemLn : Elem Tryz.prog 42 47 5 := elem_of (z := .agg #[.int .i64 0, .string ⟨#[]⟩, .string ⟨#[]⟩, .string ⟨#[]⟩, .int .i64 0]) (bytes := 64) Tryz.underlying42 (by kernel_rfl) (by decide) (by decide) rfl
theorem lnC_one (x : Ln) : ∀ u ∈ lnC x, u.oneCell' = true := one5 _ _ _ _ _
theorem ILines_any (s : ByteArray) (w : World) (hs : s.size ≤ 10000000000) (hT : TabU w) :
    Calls Tryz.prog 11 #[.string s] w (LinesPost w (linesR s)) := by
  obtain ⟨r, hr⟩ : ∃ r, r = linesR s := ⟨_, rfl⟩
  rw [← hr]
  unfold linesR at hr
  have HR := Lib.hid hr
  have HT := Lib.hid hT
  clear hr hT
  by_cases hbig : 1048576 < s.size
  case pos =>
    have HF : Hid (r = ([], 0, 10)) := by unfold Hid; rw [HR.out, if_pos hbig]
    have hb : ((1048576 : Int) < (s.size : Int)) = True := eq_true (by omega)
    clear HR hbig
    go_enter Tryz.func11, Tryz.ntmps11
    go_wp2_with fail
    go_ret3
    exact ⟨_, by rw [HF.out]; rfl, ⟨_, Nat.le_refl _, by rw [HF.out]; exact World.ownsRow_nil _ _ _ _⟩, Below.refl _ _⟩
  have hb : ((1048576 : Int) < (s.size : Int)) = False := eq_false (by omega)
  replace HR : Hid (r = if badL (L s) < s.size then ([], badL (L s), 5) else (lnV 0 (lnsB s), 0, 0)) := by unfold Hid; rw [HR.out, if_neg hbig]
  have HINV := Lib.hid (fun w' hT => invalidI_any s w' (by omega) hT)
  by_cases hbad : badL (L s) < s.size
  case pos =>
    have HF : Hid (r = ([], badL (L s), 5)) := by unfold Hid; rw [HR.out, if_pos hbad]
    have hinv : invR (L s) = ((badL (L s) : Nat) : Int) := by
      unfold invR
      rw [if_neg (by rw [L_len]; omega)]
    rw [hinv] at HINV
    clear HR hbad hinv hbig
    generalize badL (L s) = bd at *
    go_enter Tryz.func11, Tryz.ntmps11
    go_wp2_with fail
    refine (HINV.out _ HT.out).mono ?_
    rintro e w1 ⟨rfl, hb1⟩
    have HB1 := Lib.hid hb1
    clear hb1
    go_wp2_with fail
    go_ret3
    exact ⟨_, by rw [HF.out]; rfl, ⟨_, Nat.le_refl _, by rw [HF.out]; exact World.ownsRow_nil _ _ _ _⟩, HB1.out⟩
  have hinv : invR (L s) = -1 := by
    unfold invR
    have hle := bad_le (L s).length (L s)
    have : badL (L s) ≤ (L s).length := hle
    rw [if_pos (by rw [L_len] at this ⊢; omega)]
  rw [hinv] at HINV
  have HF : Hid (r = (lnV 0 (lnsB s), 0, 0)) := by unfold Hid; rw [HR.out, if_neg hbad]
  have HUL := Lib.hid (fun w' => ULines_any s w' hs)
  have HSM : Hid (∀ b ∈ lnsB s, b.size ≤ 1048576) := fun b hb => by have := lnF_small s s.size 0 0 (Nat.zero_le _) b hb; omega
  have hnl : (lnsB s).length ≤ 1048577 := by have := lnF_len s s.size 0 0; show (lnF s s.size 0 0).length ≤ _; omega
  clear HR hbad hinv hbig
  generalize lnsB s = ls at *
  go_enter Tryz.func11, Tryz.ntmps11
  go_upto_region 3 with fail
  clear hb
  go_wp2_with fail
  refine (HINV.out _ HT.out).mono ?_
  rintro e w1 ⟨rfl, hb1⟩
  have HB1 := Lib.hid hb1
  clear hb1 HINV
  go_upto_region 8 with fail
  go_wp2_with fail
  refine (HUL.out _).mono ?_
  rintro e w2 ⟨v2, rfl, hown, hb2⟩
  have HB2 := Lib.hid (HB1.out.trans (hb2.mono HB1.out.size))
  clear hb2 HUL
  obtain ⟨a, cap, rfl, hat⟩ := own_cells hown
  have HCE := Lib.hid hat
  clear hat hown
  go_wp2_with fail
  have HV0 : Hid (lnV 0 ls = [] ++ lnV 0 (ls.drop 0)) := rfl
  go_loopw [6, 7, 22] (fun ov pv iv wr => ∃ (pos : Nat) (acc : List Ln), iv = .int .i64 (acc.length : Int) ∧ pv = .int .i64 (pos : Int) ∧ acc.length ≤ ls.length ∧ pos ≤ acc.length * 1048576 ∧ Hid (lnV 0 ls = acc ++ lnV pos (ls.drop acc.length)) ∧ Hid (wr.ownsRow w2.heap.size 47 5 ov acc.length (acc.flatMap lnC)) ∧ Hid (Below w2.heap.size w2 wr)) (fun _ _ iv _ => ls.length - (intOf iv).toNat)
  case atStart => exact ⟨0, [], rfl, rfl, Nat.zero_le _, Nat.zero_le _, HV0.out, World.ownsRow_nil _ _ _ _, Below.refl _ _⟩
  case round =>
    clear HV0
    obtain ⟨pos, acc, rfl, rfl, hal, hpos, HV, HOWN, HBW⟩ := hrel
    by_cases hlt : acc.length < ls.length
    case neg =>
      have HX : Hid (lnV 0 ls = acc) := by unfold Hid; rw [HV.out, List.drop_of_length_le (by omega)]; exact List.append_nil _
      clear HV
      go_wp2_with fail
      go_ret3
      exact ⟨_, by rw [HF.out]; rfl, ⟨_, HB2.out.size, by rw [HF.out]; dsimp only; rw [HX.out]; exact HOWN.out⟩, HB2.out.trans (HBW.out.mono HB2.out.size)⟩
    obtain ⟨g, rfl, hg, hat⟩ := HCE.out (by omega)
    have hcell := hat acc.length hlt
    rw [List.getElem?_map, List.getElem?_eq_getElem hlt, Option.map_some] at hcell
    have y := (HBW.out.cell (p := ⟨g, acc.length, none⟩) hg).trans hcell
    have hbz := HSM.out _ (List.getElem_mem hlt)
    have HN : Hid (lnV 0 ls = (acc ++ [lineP (L ls[acc.length]) pos]) ++ lnV (pos + ls[acc.length].size) (ls.drop (acc.length + 1))) := by
      unfold Hid
      rw [HV.out, List.drop_eq_getElem_cons hlt, lnV, List.append_assoc]
      rfl
    generalize ls[acc.length] = b at *
    have HDV := Lib.hid (fun w' hT => divide_any b w' (by omega) hT)
    have HAL : Hid (acc.length < 100000000000) := by unfold Hid; omega
    clear hat hcell HV
    go_upto_region 11 with fail
    clear y
    go_wp2_with fail
    refine (HDV.out _ (HT.out.below (HB2.out.trans (HBW.out.mono HB2.out.size)))).mono ?_
    rintro e w5 ⟨rfl, hb5⟩
    have HB5 := Lib.hid hb5
    clear hb5 HDV
    have hp0 : (0 : Int) ≤ (pos : Int) := by omega
    have HSZ : Hid (w2.heap.size ≤ wr.heap.size) := HBW.out.size
    go_wp2_with (first
      | (at_builtin; refine wp_push elemLn rfl _ _ rfl (own_below (own_below HOWN.out HB5.out) HB7.out) (lnC (lineP (L b) pos)) rfl (lnC_one _) rfl rfl HAL.out (Nat.le_trans HSZ.out (Nat.le_trans HB5.out.size HB7.out.size)) ?_; intro v9 w9 hn9 hg9 hb9; have HO9 := Lib.hid hn9; have HB9 := Lib.hid ((HBW.out.trans ((HB5.out.trans (HB7.out.mono HB5.out.size)).mono HSZ.out)).trans hb9); clear hn9 hg9 hb9)
      | (refine wpl_slice rfl rfl elemLn rfl (cs := lnC (lineP (L b) pos)) rfl rfl (by decide) ?_)
      | refine wpl_load rfl rfl stLn rfl (cs := lnC (lineP (L b) pos)) rfl HC7.out ?_
      | (refine wpl_store rfl rfl stI1 rfl rfl (cs := [.int .i64 (pos : Int)]) rfl rfl (by intro u hu; rw [List.mem_singleton.1 hu]; rfl) HD6.out (Nat.le_of_ble_eq_true rfl) (row := lnC (lineP (L b) pos)) rfl ?_; generalize hW7 : World.setRow _ _ _ = w7; obtain ⟨hd7, -, hz7, hb7⟩ := setRow_of hW7 HD6.out; have HC7 : Hid (∀ j, j < 5 → w7.cell? ⟨w5.heap.size, 0 + j, none⟩ = (lnC (lineP (L b) pos))[j]?) := (fun j hj => by rw [Nat.zero_add, cell_of_row _ _ _ _ _ _ hd7, List.getElem?_toArray]); have HB7 := Lib.hid (HB6.out.trans (hb7 _ (Nat.le_refl _))); clear hW7 hd7 hz7 hb7)
      | (refine wpl_new rfl rfl stLn rfl (cs := lnC (lineP (L b) 0)) rfl rfl (lnC_one _) rfl rfl rfl ?_; generalize hW6 : World.alloc w5 _ = w6; obtain ⟨hd6, -, hz6, hb6⟩ := alloc_of hW6; have HD6 := Lib.hid hd6; have HB6 := Lib.hid hb6; clear hW6 hd6 hz6 hb6))
    exact ⟨⟨pos + b.size, acc ++ [lineP (L b) pos], by rw [List.length_append]; go_num, by go_num, by rw [List.length_append]; simp; omega, by rw [List.length_append]; simp; omega, by unfold Hid; rw [HN.out, List.length_append]; rfl, by unfold Hid; rw [List.length_append, List.flatMap_append]; simpa using HO9.out, HB9.out⟩, by simp [intOf]; omega⟩
end Go.Proofs.YtlnpfpjncnkekaaGreatDoor

namespace Go.Proofs.YtlnpfpjncnkekaaGreatDoor
open Go.RowKit
set_option maxHeartbeats 4000000
set_option maxRecDepth 100000

end Go.Proofs.YtlnpfpjncnkekaaGreatDoor

namespace Go.Proofs.YtlnpfpjncnkekaaGreatDoor
open Go.RowKit
set_option maxHeartbeats 4000000
set_option maxRecDepth 100000

end Go.Proofs.YtlnpfpjncnkekaaGreatDoor
