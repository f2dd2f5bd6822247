/- datakitref21.Lines walked. Conditions: strings of at most 10^10 bytes. -/
import Derived.Test.YtgddhkanfcpipaaGreatDoorZk13
import Derived.Test.YtgddhkanfcpipaaGreatDoorZk15
import Derived.Test.YtgddhkanfcpipaaGreatDoorZk8
namespace Go.Proofs.YtgddhkanfcpipaaGreatDoor
open Go.RowKit
set_option maxHeartbeats 4000000
set_option maxRecDepth 100000

theorem trimS_one (l : List UInt8) (c : UInt8) : Lib.trimSuffix l [c] = if l.getLast? = some c then l.take (l.length - 1) else l := by
  unfold Lib.trimSuffix Lib.hasSuffix
  rcases List.eq_nil_or_concat l with rfl | ⟨t, x, rfl⟩
  · rfl
  · have e : (t.concat x).getLast? = some x := by simp
    rw [e]
    by_cases h : x = c
    · subst h
      simp
    · rw [if_neg (fun hh => h (Option.some.inj hh)), if_neg]
      simp
      exact fun hh => h hh.symm
theorem body_take (l : List UInt8) : l.take (bodyN l) = if l.getLast? = some 10 then Lib.trimSuffix (Lib.trimSuffix l [10]) [13] else l := by
  unfold bodyN
  by_cases h : l.getLast? = some 10
  · rw [if_pos h, if_pos h, trimS_one l, if_pos h, trimS_one]
    generalize hn : l.length = n at *
    have hl1 : (l.take (n - 1)).length = n - 1 := by rw [List.length_take]; omega
    have hg : (l.take (n - 1)).getLast? = if 2 ≤ n then l[n - 2]? else none := by
      rw [List.getLast?_eq_getElem?, hl1, List.getElem?_take]
      by_cases h2 : 2 ≤ n
      · rw [if_pos h2, if_pos (by omega), show n - 1 - 1 = n - 2 by omega]
      · rw [if_neg h2, if_neg (by omega)]
    rw [hg, hl1]
    by_cases h2 : 2 ≤ n
    · rw [if_pos h2]
      by_cases h13 : l[n - 2]? = some 13
      · rw [if_pos ⟨h2, h13⟩, if_pos h13, List.take_take, show min (n - 1 - 1) (n - 1) = n - 2 by omega]
      · rw [if_neg (fun h => h13 h.2), if_neg h13]
    · rw [if_neg h2, if_neg (fun h => h2 h.1), if_neg (by intro h; cases h)]
  · rw [if_neg h, if_neg h, List.take_length]
theorem spc_drop (l : List UInt8) : l.drop (spcN l) = Lib.trimLeftB l 32 := by
  unfold Lib.trimLeftB
  induction l with
  | nil => rfl
  | cons b t ih =>
    rw [spcN, List.dropWhile_cons]
    by_cases hb : b = 32
    · rw [if_pos hb, if_pos (by rw [hb]; rfl), ← ih, Nat.add_comm, List.drop_succ_cons]
    · rw [if_neg hb, if_neg (by simpa using hb), List.drop_zero]
/-- A line's cells. -/
def lnC (x : Ln) : List Value := [.int .i64 (x.ind : Int), .string ⟨x.text.toArray⟩, .string ⟨x.com.toArray⟩, .string ⟨x.fin.toArray⟩, .int .i64 (x.pos : Int)]
abbrev ln0 : List Value := [.int .i64 0, .string ⟨#[]⟩, .string ⟨#[]⟩, .string ⟨#[]⟩, .int .i64 0]
theorem stLn : StT Tryz.prog 30 5 := ⟨by kernel_rfl, by kernel_rfl⟩
theorem stS1 : (Tryz.prog.info? 9).map (·.size) = some 1 := by kernel_rfl
theorem stI1 : (Tryz.prog.info? 3).map (·.size) = some 1 := by kernel_rfl
theorem mk_of {t : ByteArray} {l : List UInt8} (h : L t = l) : (⟨l.toArray⟩ : ByteArray) = t := by
  apply L_inj
  rw [L_mk, h]
/-- The result's box and the line's. -/
structure LB (w w' : World) (cs : List Value) : Prop where
  b : Below w.heap.size w w'
  x1 : w'.heap[w.heap.size]? = some (.cells ln0.toArray 30 (0, 0))
  x2 : w'.heap[w.heap.size + 1]? = some (.cells cs.toArray 30 (0, 0))
theorem LB.lt {w w' : World} {cs : List Value} (h : LB w w' cs) : w.heap.size + 1 < w'.heap.size := (Array.getElem?_eq_some_iff.1 h.x2).1
theorem LB.below {w w' w2 : World} {cs : List Value} (h : LB w w' cs) (hb : Below w'.heap.size w' w2) : LB w w2 cs := by
  have := h.lt
  exact ⟨h.b.trans (hb.mono h.b.size), (hb.block _ (by omega)).trans h.x1, (hb.block _ (by omega)).trans h.x2⟩
theorem LB.set {w w' w2 : World} {cs c2 : List Value} (h : LB w w' cs) (hW : w'.setRow (w.heap.size + 1) c2.toArray = w2) : LB w w2 c2 := by
  obtain ⟨h1, h2, h3, h4⟩ := setRow_of hW h.x2
  exact ⟨h.b.trans (h4 _ (by omega)), (h2 _ (by omega)).trans h.x1, h1⟩
theorem drewB1 (w : World) : Below w.heap.size w w.drew := ⟨rfl, rfl, rfl, Nat.le_refl _, fun _ _ => rfl⟩
theorem one5 (a e : Int) (b c d : ByteArray) : ∀ u ∈ [Value.int .i64 a, .string b, .string c, .string d, .int .i64 e], u.oneCell' = true := by
  intro u hu
  simp only [List.mem_cons, List.not_mem_nil, or_false] at hu
  rcases hu with rfl | rfl | rfl | rfl | rfl <;> rfl
theorem row5 {w : World} {g : Nat} {t : TypeId} {a b c d e : Value} (h : w.heap[g]? = some (.cells [a, b, c, d, e].toArray t (0, 0))) :
    w.cell? ⟨g, 0, none⟩ = some a ∧ w.cell? ⟨g, 1, none⟩ = some b ∧ w.cell? ⟨g, 2, none⟩ = some c ∧ w.cell? ⟨g, 3, none⟩ = some d ∧ w.cell? ⟨g, 4, none⟩ = some e :=
  ⟨(cell_of_row w g _ _ t (0, 0) h).trans rfl, (cell_of_row w g _ _ t (0, 0) h).trans rfl, (cell_of_row w g _ _ t (0, 0) h).trans rfl, (cell_of_row w g _ _ t (0, 0) h).trans rfl, (cell_of_row w g _ _ t (0, 0) h).trans rfl⟩
theorem divide_any (s : ByteArray) (w : World) (hs : s.size ≤ 100000000000) (hT : TabU w) :
    Calls Tryz.prog 32 #[.string s] w fun e w' => e = .returned (.agg (lnC (lineP (L s) 0)).toArray) ∧ Below w.heap.size w w' := by
  have hm : s.size ≤ maxLen := by simp only [maxLen]; omega
  have hm2 : s.size ≤ 9223372036854775807 := by omega
  have HT := Lib.hid hT
  clear hT
  obtain ⟨nb, hnb⟩ : ∃ nb, nb = bodyN (L s) := ⟨_, rfl⟩
  have hnl : nb ≤ s.size := by rw [hnb, ← L_len]; exact bodyN_le _
  have HNB := Lib.hid hnb
  clear hnb
  obtain ⟨t1, ht1⟩ : ∃ t1 : ByteArray, (⟨(Lib.trimSuffix s.data.toList [10]).toArray⟩ : ByteArray) = t1 := ⟨_, rfl⟩
  have hl1 : L t1 = Lib.trimSuffix (L s) [10] := by rw [← ht1]; rfl
  obtain ⟨t2, ht2⟩ : ∃ t2 : ByteArray, (⟨(Lib.trimSuffix t1.data.toList [13]).toArray⟩ : ByteArray) = t2 := ⟨_, rfl⟩
  have hl2 : L t2 = Lib.trimSuffix (L t1) [13] := by rw [← ht2]; rfl
  have hz1 : t1.size ≤ s.size := by
    rw [← L_len t1, hl1, ← L_len s, trimS_one]
    split
    · rw [List.length_take]; omega
    · exact Nat.le_refl _
  have HT1 := Lib.hid (fun w' => Tryz.strings_TrimSuffix s ⟨#[10]⟩ w' hm2)
  have HT2 := Lib.hid (fun w' => Tryz.strings_TrimSuffix t1 ⟨#[13]⟩ w' (by omega))
  dsimp only at HT1 HT2
  rw [ht1] at HT1
  rw [ht2] at HT2
  obtain ⟨rs, hrs⟩ : ∃ rs : ByteArray, rs = s.extract 0 nb := ⟨_, rfl⟩
  have hlr : L rs = (L s).take nb := by rw [hrs, L_upto]
  have hzr : rs.size = nb := by rw [← L_len, hlr, List.length_take, L_len]; omega
  have HCA : Hid (((L s).getLast? = some 10 → t1.size < s.size ∧ t2 = rs) ∧ ((L s).getLast? ≠ some 10 → t1.size = s.size ∧ t1 = rs)) := by
    have hb := body_take (L s)
    rw [← HNB.out, ← hlr] at hb
    constructor
    · intro h
      rw [if_pos h, ← hl1, ← hl2] at hb
      refine ⟨?_, (L_inj hb).symm⟩
      rw [← L_len t1, hl1, trimS_one, if_pos h, List.length_take, L_len]
      have : s.size ≠ 0 := by
        intro h0
        have h1 : L s = [] := List.eq_nil_of_length_eq_zero (by rw [L_len]; exact h0)
        rw [h1] at h
        cases h
      omega
    · intro h
      rw [if_neg h] at hb
      have h1 : L t1 = L s := by rw [hl1, trimS_one, if_neg h]
      exact ⟨by rw [← L_len t1, h1, L_len], L_inj (h1.trans hb.symm)⟩
  clear ht1 hl1 ht2 hl2 hrs
  go_enter Tryz.func32, Tryz.ntmps32
  go_upto_region 2 with fail
  generalize hW1 : World.alloc w _ = w1
  obtain ⟨ha1, -, hz1', hb1⟩ := alloc_of hW1
  generalize hW2 : World.alloc w1 _ = w2
  obtain ⟨ha2, -, hz2', hb2⟩ := alloc_of hW2
  have HLB : Hid (LB w w2 ln0) := ⟨hb1.trans (hb2.mono (by omega)), (hb2.block _ (by omega)).trans ha1, by rw [← hz1']; exact ha2⟩
  clear hW1 hW2 ha1 ha2 hb1 hb2 hz1' hz2'
  go_cut [4] (fun v wx => v = .string t1 ∧ w2 = wx)
  case first =>
    go_wp2_with (go_at_call 78; refine (HT1.out _).mono ?_; rintro e w' ⟨rfl, rfl⟩)
    go_meet
    exact ⟨rfl, rfl⟩
  case rest =>
  obtain ⟨hv, rfl⟩ := hcut
  subst hv
  go_upto_if 13 with fail
  go_cut [4] (fun v wx => v = .string rs ∧ w2 = wx)
  case first =>
    by_cases hl : (L s).getLast? = some 10
    case pos =>
      obtain ⟨h1, h2⟩ := HCA.out.1 hl
      have h1i : (t1.size : Int) < (s.size : Int) := by omega
      have H2 := Lib.hid h2
      clear h1 h2 hl
      go_wp2_with (go_at_call 78; refine (HT2.out _).mono ?_; rintro e w' ⟨rfl, rfl⟩)
      go_meet
      exact ⟨by rw [H2.out], rfl⟩
    case neg =>
      obtain ⟨h1, h2⟩ := HCA.out.2 hl
      have h1i : ¬ (t1.size : Int) < (s.size : Int) := by omega
      have H2 := Lib.hid h2
      clear h1 h2 hl
      go_wp2_with fail
      go_meet
      exact ⟨by rw [H2.out], rfl⟩
  case rest =>
  obtain ⟨hv, rfl⟩ := hcut
  subst hv
  clear HCA HT1 HT2 hz1
  obtain ⟨ct, hct⟩ : ∃ ct : ByteArray, (⟨(Lib.trimLeftB rs.data.toList 32).toArray⟩ : ByteArray) = ct := ⟨_, rfl⟩
  have hlc : L ct = contL (L s) := by
    rw [← hct]
    show Lib.trimLeftB (L rs) 32 = _
    unfold contL
    rw [← HNB.out, ← hlr, spc_drop]
  have hzc : ct.size = nb - spcN ((L s).take nb) := by rw [← L_len, hlc, contL, List.length_drop, List.length_take, L_len, ← HNB.out]; omega
  have hsp := spcN_le ((L s).take nb)
  rw [List.length_take, L_len] at hsp
  have HTL := Lib.hid (fun w' => Tryz.strings_TrimLeft_one rs 32 (by decide) w')
  rw [hct] at HTL
  have hrle : rs.size ≤ s.size := by omega
  have hcle : ct.size ≤ rs.size := by omega
  have HCS := Lib.hid (fun w' hT => hash_any ct w' (by omega) hT)
  have HLC := Lib.hid hlc
  have HLR := Lib.hid hlr
  have HZR := Lib.hid hzr
  have HSP : Hid (rs.size - ct.size = spcN ((L s).take nb)) := by unfold Hid; omega
  clear hct hlc hzc hsp hlr hzr
  go_upto_region 6 with (refine wpl_store rfl rfl stS1 rfl rfl (cs := [.string (s.extract rs.size s.size)]) rfl rfl (by intro u hu; rw [List.mem_singleton.1 hu]; rfl) HLB.out.x2 (by decide) (row := [.int .i64 0, .string ⟨#[]⟩, .string ⟨#[]⟩, .string (s.extract rs.size s.size), .int .i64 0]) rfl ?_; generalize hW4 : World.setRow _ _ _ = w3; have HL3 := Lib.hid (HLB.out.set hW4); clear hW4)
  clear HLB
  have hd0 : (0 : Int) ≤ (rs.size : Int) - (ct.size : Int) := by omega
  go_upto_region 8 with (first
    | (go_at_call 79; refine (HTL.out _).mono ?_; rintro e w' ⟨rfl, rfl⟩)
    | (refine wpl_store rfl rfl stI1 rfl rfl (cs := [.int .i64 ((rs.size : Int) - (ct.size : Int))]) rfl rfl (by intro u hu; rw [List.mem_singleton.1 hu]; rfl) HL3.out.x2 (Nat.le_of_ble_eq_true rfl) (row := [.int .i64 ((rs.size : Int) - (ct.size : Int)), .string ⟨#[]⟩, .string ⟨#[]⟩, .string (s.extract rs.size s.size), .int .i64 0]) rfl ?_; generalize hW4 : World.setRow _ _ _ = w4; have HL4 := Lib.hid (HL3.out.set hW4); clear hW4))
  clear HL3 HTL
  go_wp2_with fail
  refine (HCS.out _ (HT.out.below HL4.out.b)).mono ?_
  rintro e w5 ⟨rfl, hb⟩
  have HL5 := Lib.hid (HL4.out.below hb)
  clear hb HL4 HCS
  have hhl := hashW_len 32 (L ct)
  rw [L_len] at hhl
  generalize hh : hashW 32 (L ct) = hn at *
  obtain ⟨cn, hcn⟩ : ∃ cn, cn = backS (L ct) hn := ⟨_, rfl⟩
  have hcl : cn ≤ ct.size := by rw [hcn]; exact Nat.le_trans (backS_le _ _) hhl
  have HC0 := Lib.hid hcn
  have HCN : Hid (cn = contN (L s)) := by unfold Hid contN; rw [hcn, ← HLC.out, hh]
  clear hh hcn
  go_upto_block 0 with fail
  go_cut [6] (fun v wx => v = .int .i64 (cn : Int) ∧ LB w wx [.int .i64 ((rs.size : Int) - (ct.size : Int)), .string ⟨#[]⟩, .string ⟨#[]⟩, .string (s.extract rs.size s.size), .int .i64 0])
  case first =>
    go_wp2_with fail
    go_loopw [6] (fun ev wr => ∃ n : Nat, ev = .int .i64 (n : Int) ∧ n ≤ ct.size ∧ Hid (cn = backS (L ct) n) ∧ Hid (LB w wr [.int .i64 ((rs.size : Int) - (ct.size : Int)), .string ⟨#[]⟩, .string ⟨#[]⟩, .string (s.extract rs.size s.size), .int .i64 0])) (fun ev _ => (intOf ev).toNat)
    case atStart => exact ⟨hn, rfl, hhl, HC0.out, HL5.out⟩
    case round =>
      clear HC0 HL5 hhl
      obtain ⟨n, rfl, hn', HC, HLr⟩ := hrel
      cases n with
      | zero =>
        have HF : Hid (cn = 0) := HC.out
        clear HC
        have e0 : ((0 : Nat) : Int) = 0 := rfl
        rw [e0]
        clear e0
        go_wp2_with fail
        go_meet
        exact ⟨by rw [HF.out]; rfl, HLr.out⟩
      | succ m =>
        have hlt : m < ct.size := by omega
        have hst := HC.out
        rw [backS, List.getElem?_eq_getElem (by rw [L_len]; exact hlt)] at hst
        have hget : (L ct)[m]'(by rw [L_len]; exact hlt) = ct[m] := rfl
        rw [hget] at hst
        have e1 : ((m + 1 : Nat) : Int) = (m : Int) + 1 := by omega
        rw [e1]
        clear e1 hget
        have hm0 : (0 : Int) ≤ (m : Int) := by omega
        by_cases h32 : ct[m] = 32
        case pos =>
          rw [if_pos (by rw [h32])] at hst
          have hq := beqB ct[m] 32 (by rw [h32]; rfl)
          have HN : Hid (cn = backS (L ct) m) := hst
          clear hst h32 HC
          go_wp2_with fail
          exact ⟨⟨m, rfl, by omega, HN.out, HLr.out⟩, by simp [intOf]⟩
        case neg =>
          rw [if_neg (fun h => h32 (Option.some.inj h))] at hst
          have hq := beqNB ct[m] 32 (fun h => h32 (UInt8.toNat_inj.1 (show ct[m].toNat = 32 by omega)))
          have HF : Hid (cn = m + 1) := hst
          clear hst h32 HC
          go_wp2_with fail
          go_meet
          exact ⟨by rw [HF.out]; rfl, HLr.out⟩
  case rest =>
  obtain ⟨hv, hlb⟩ := hcut
  subst hv
  clear HC0 HL5 hhl
  have HLB := Lib.hid hlb
  clear hlb
  have hcn0 : (0 : Int) ≤ (cn : Int) := by omega
  have hcn1 : (cn : Int) ≤ (ct.size : Int) := by omega
  go_upto_region 11 with fail
  refine wp_region_held_drew (S := fun _ => True) (by kernel_rfl) trivial (fun hHeld => ?_)
  replace HLB := Lib.hid (HLB.out.below (drewB1 wc))
  generalize wc.drew = wd at *
  refine take_at 0 (some 42) rfl rfl (by kernel_rfl) (by kernel_rfl) (by kernel_rfl) (fun _ _ _ h => h) (Or.inl ⟨by rfl, fun w hSw => by (clear hSw; go_simp; with_reducible rfl)⟩) hHeld ?_
  simp only [Act.put, List.setIfInBounds_toArray, List.set_cons_zero, List.set_cons_succ]
  refine take_at 1 (some 43) rfl rfl (by kernel_rfl) (by kernel_rfl) (by kernel_rfl) (fun _ _ _ h => h) (Or.inl ⟨by rfl, fun w hSw => by (clear hSw; go_simp; with_reducible rfl)⟩) hHeld ?_
  simp only [Act.put, List.setIfInBounds_toArray, List.set_cons_zero, List.set_cons_succ]
  refine take_at 2 (some 44) rfl rfl (by kernel_rfl) (by kernel_rfl) (by kernel_rfl) (fun _ _ _ h => h) (Or.inl ⟨by rfl, fun w hSw => by (clear hSw; go_simp; with_reducible rfl)⟩) hHeld ?_
  simp only [Act.put, List.setIfInBounds_toArray, List.set_cons_zero, List.set_cons_succ]
  refine take_at 3 (some 45) rfl rfl (by kernel_rfl) (by kernel_rfl) (by kernel_rfl) (fun _ _ _ h => h) (Or.inl ⟨by rfl, fun w hSw => by (clear hSw; go_simp; with_reducible rfl)⟩) hHeld ?_
  simp only [Act.put, List.setIfInBounds_toArray, List.set_cons_zero, List.set_cons_succ]
  refine take_at 4 (some 46) rfl rfl (by kernel_rfl) (by kernel_rfl) (by kernel_rfl) (fun _ _ _ h => h) (Or.inl ⟨by rfl, fun w hSw => by (clear hSw; go_simp; with_reducible rfl)⟩) hHeld ?_
  simp only [Act.put, List.setIfInBounds_toArray, List.set_cons_zero, List.set_cons_succ]
  refine take_at 5 (some 47) rfl rfl (by kernel_rfl) (by kernel_rfl) (by kernel_rfl) (fun _ _ _ h => h) (Or.inl ⟨by rfl, fun w hSw => by (clear hSw; go_simp; with_reducible rfl)⟩) hHeld ?_
  simp only [Act.put, List.setIfInBounds_toArray, List.set_cons_zero, List.set_cons_succ]
  refine take_at 6 (some 48) rfl rfl (by kernel_rfl) (by kernel_rfl) (by kernel_rfl) (fun _ _ _ h => h) (Or.inl ⟨by rfl, fun w hSw => by (clear hSw; go_simp; with_reducible rfl)⟩) hHeld ?_
  simp only [Act.put, List.setIfInBounds_toArray, List.set_cons_zero, List.set_cons_succ]
  refine wpAnyH_ready (rs := [7]) (by kernel_rfl) (by simp) ?_
  refine AllReadyH.cons rfl (fun K hK => ?_) AllReadyH.nil
  refine step_store (row := [.int .i64 ((rs.size : Int) - (ct.size : Int)), .string (ct.extract 0 cn), .string ⟨#[]⟩, .string (s.extract rs.size s.size), .int .i64 0]) rfl _ _ rfl stS1 (w.heap.size + 1) 1 rfl rfl (cs := [.string (ct.extract 0 cn)]) rfl rfl (by intro u hu; rw [List.mem_singleton.1 hu]; rfl) HLB.out.x2 (Nat.le_of_ble_eq_true rfl) rfl ?_
  generalize hW4 : World.setRow _ _ _ = w7
  replace HLB := Lib.hid (HLB.out.set hW4)
  clear hW4 hHeld
  refine hK.out _ _ trivial (fun hHeld => ?_)
  clear hK K
  refine take_at 8 (some 49) rfl rfl (by kernel_rfl) (by kernel_rfl) (by kernel_rfl) (fun _ _ _ h => h) (Or.inl ⟨by rfl, fun w hSw => by (clear hSw; go_simp; with_reducible rfl)⟩) hHeld ?_
  simp only [Act.put, List.setIfInBounds_toArray, List.set_cons_zero, List.set_cons_succ]
  refine wpAnyH_ready (rs := [9]) (by kernel_rfl) (by simp) ?_
  refine AllReadyH.cons rfl (fun K hK => ?_) AllReadyH.nil
  refine step_store (row := [.int .i64 ((rs.size : Int) - (ct.size : Int)), .string (ct.extract 0 cn), .string (ct.extract cn ct.size), .string (s.extract rs.size s.size), .int .i64 0]) rfl _ _ rfl stS1 (w.heap.size + 1) 2 rfl rfl (cs := [.string (ct.extract cn ct.size)]) rfl rfl (by intro u hu; rw [List.mem_singleton.1 hu]; rfl) HLB.out.x2 (Nat.le_of_ble_eq_true rfl) rfl ?_
  generalize hW4 : World.setRow _ _ _ = w8
  replace HLB := Lib.hid (HLB.out.set hW4)
  clear hW4 hHeld
  refine hK.out _ _ trivial (fun hHeld => ?_)
  clear hK K
  clear hHeld
  refine wpAnyH_done (by kernel_rfl) ?_ _
  go_simp
  have HCL : Hid (∀ j, j < 5 → w8.cell? ⟨w.heap.size + 1, 0 + j, none⟩ = ([.int .i64 ((rs.size : Int) - (ct.size : Int)), .string (ct.extract 0 cn), .string (ct.extract cn ct.size), .string (s.extract rs.size s.size), .int .i64 0] : List Value)[j]?) := by
    intro j hj
    rw [Nat.zero_add, cell_of_row _ _ _ _ _ _ HLB.out.x2, List.getElem?_toArray]
  have HX1 := Lib.hid HLB.out.x1
  have HBW := Lib.hid HLB.out.b
  go_wp2_with (first
    | refine wpl_load rfl rfl stLn rfl (cs := [.int .i64 ((rs.size : Int) - (ct.size : Int)), .string (ct.extract 0 cn), .string (ct.extract cn ct.size), .string (s.extract rs.size s.size), .int .i64 0]) rfl HCL.out ?_
    | (refine wpl_store rfl rfl stLn.2 rfl rfl (cs := [.int .i64 ((rs.size : Int) - (ct.size : Int)), .string (ct.extract 0 cn), .string (ct.extract cn ct.size), .string (s.extract rs.size s.size), .int .i64 0]) rfl rfl (one5 _ _ _ _ _) HX1.out (Nat.le_refl 5) (row := [.int .i64 ((rs.size : Int) - (ct.size : Int)), .string (ct.extract 0 cn), .string (ct.extract cn ct.size), .string (s.extract rs.size s.size), .int .i64 0]) rfl ?_; generalize hW9 : World.setRow _ _ _ = w9; obtain ⟨hd9, hk9, hz9, hb9⟩ := setRow_of hW9 HX1.out; clear hW9; refine RowKit.Hid.out ?_))
  unfold RowKit.Hid
  repeat go_step
  obtain ⟨z0, z1, z2, z3, z4⟩ := row5 hd9
  have HE : Hid ([Value.int .i64 ((rs.size : Int) - (ct.size : Int)), .string (ct.extract 0 cn), .string (ct.extract cn ct.size), .string (s.extract rs.size s.size), .int .i64 0] = lnC (lineP (L s) 0)) := by
    unfold Hid lnC lineP
    rw [← HNB.out, ← HCN.out, ← HLC.out]
    have e1 : ((rs.size : Int) - (ct.size : Int)) = ((spcN ((L s).take nb) : Nat) : Int) := by have := HSP.out; omega
    rw [e1, mk_of (L_upto ct cn), mk_of (L_from ct cn), mk_of (t := s.extract rs.size s.size) (by rw [L_from, HZR.out])]
    rfl
  refine bodyPost_ret (v := .agg #[.int .i64 ((rs.size : Int) - (ct.size : Int)), .string (ct.extract 0 cn), .string (ct.extract cn ct.size), .string (s.extract rs.size s.size), .int .i64 0]) (by simp [results, Tryz.results32, go_sem, z0, z1, z2, z3, z4]) rfl ⟨?_, HBW.out.trans (hb9 _ (Nat.le_refl _))⟩
  rw [← HE.out]
end Go.Proofs.YtgddhkanfcpipaaGreatDoor

namespace Go.Proofs.YtgddhkanfcpipaaGreatDoor
open Go.RowKit
set_option maxHeartbeats 4000000
set_option maxRecDepth 100000

theorem last_at (s : ByteArray) (h : 0 < s.size) : (L s).getLast? = some (s[s.size - 1]'(by omega)) := by
  rw [List.getLast?_eq_getElem?, L_len, List.getElem?_eq_getElem (by rw [L_len]; omega)]
  rfl
theorem line_any (s : ByteArray) (p : Nat) (w : World) (hs : s.size ≤ 100000000000) :
    Calls Tryz.prog 35 #[.string s, .int .i64 (p : Int)] w fun e w' => e = .returned (.agg (lnC (lineP (L s) p)).toArray) ∧ Below w.heap.size w w' := by
  have hm : s.size ≤ maxLen := by simp only [maxLen]; omega
  obtain ⟨nb, hnb⟩ : ∃ nb, nb = bodyN (L s) := ⟨_, rfl⟩
  have hnl : nb ≤ s.size := by rw [hnb, ← L_len]; exact bodyN_le _
  obtain ⟨rs, hrs⟩ : ∃ rs : ByteArray, rs = s.extract 0 nb := ⟨_, rfl⟩
  obtain ⟨fe, hfe⟩ : ∃ fe : ByteArray, fe = s.extract nb s.size := ⟨_, rfl⟩
  have hlr : L rs = (L s).take nb := by rw [hrs, L_upto]
  have hzr : rs.size = nb := by rw [← L_len, hlr, List.length_take, L_len]; omega
  have HNB := Lib.hid hnb
  have HRS := Lib.hid hrs
  have HFE := Lib.hid hfe
  clear hnb hrs hfe
  have hp0 : (0 : Int) ≤ (p : Int) := by omega
  obtain ⟨lb, hlb⟩ : ∃ lb : Bool, lb = decide ((L s).getLast? = some 10) := ⟨_, rfl⟩
  have HLA := Lib.hid hlb
  clear hlb
  go_enter Tryz.func35, Tryz.ntmps35
  go_upto_region 1 with fail
  generalize hW1 : World.alloc w _ = w1
  obtain ⟨ha1, -, hz1, hb1⟩ := alloc_of hW1
  clear hW1
  go_upto_region 2 with fail
  generalize hW2 : World.alloc w1 _ = w2
  obtain ⟨ha2, -, hz2, hb2⟩ := alloc_of hW2
  have HLB : Hid (LB w w2 [.int .i64 0, .string ⟨#[]⟩, .string ⟨#[]⟩, .string ⟨#[]⟩, .int .i64 (p : Int)]) := ⟨hb1.trans (hb2.mono (by omega)), (hb2.block _ (by omega)).trans ha1, by rw [← hz1]; exact ha2⟩
  clear hW2 ha1 ha2 hb1 hb2 hz1 hz2
  go_cut [20] (fun v wx => v = .bool lb ∧ w2 = wx)
  case first =>
    by_cases h0 : 0 < s.size
    case neg =>
      have HX : Hid (lb = false) := by
        unfold Hid
        rw [HLA.out, decide_eq_false_iff_not, List.eq_nil_of_length_eq_zero (show (L s).length = 0 by rw [L_len]; omega)]
        intro h
        cases h
      go_wp2_with fail
      go_meet
      exact ⟨by rw [HX.out], rfl⟩
    case pos =>
      have hi0 : (1 : Int) ≤ (s.size : Int) := by omega
      by_cases h10 : s[s.size - 1] = 10
      case pos =>
        have HX : Hid (lb = true) := by unfold Hid; rw [HLA.out, last_at s h0, h10]; rfl
        have hq := beqB s[s.size - 1] 10 (by rw [h10]; rfl)
        clear h10
        go_wp2_with fail
        go_meet
        exact ⟨by rw [HX.out], rfl⟩
      case neg =>
        have HX : Hid (lb = false) := by
          unfold Hid
          rw [HLA.out, last_at s h0, decide_eq_false_iff_not]
          exact fun h => h10 (Option.some.inj h)
        have hq := beqNB s[s.size - 1] 10 (fun h => h10 (UInt8.toNat_inj.1 (show s[s.size - 1].toNat = 10 by omega)))
        clear h10
        go_wp2_with fail
        go_meet
        exact ⟨by rw [HX.out], rfl⟩
  case rest =>
  obtain ⟨hv, rfl⟩ := hcut
  subst hv
  go_upto_if 20 with fail
  go_cut [0] (fun v wx => v = .string rs ∧ LB w wx [.int .i64 0, .string ⟨#[]⟩, .string ⟨#[]⟩, .string fe, .int .i64 (p : Int)])
  case first =>
    cases lb with
    | false =>
      have hl : ¬ (L s).getLast? = some 10 := of_decide_eq_false HLA.out.symm
      have hn : nb = s.size := by rw [HNB.out, bodyN, if_neg hl, L_len]
      have H1 : Hid (s = rs) := by
        apply L_inj
        rw [hlr, hn, ← L_len, List.take_length]
      have H2 : Hid ((⟨#[]⟩ : ByteArray) = fe) := by
        apply L_inj
        rw [HFE.out, L_from, hn, ← L_len, List.drop_length]
        rfl
      clear hl hn hlr hzr
      go_wp2_with fail
      go_meet
      exact ⟨by rw [← H1.out], by rw [← H2.out]; exact HLB.out⟩
    | true =>
      have hl : (L s).getLast? = some 10 := of_decide_eq_true HLA.out.symm
      have h0 : 0 < s.size := by
        rcases Nat.eq_zero_or_pos s.size with h | h
        · rw [List.eq_nil_of_length_eq_zero (show (L s).length = 0 by rw [L_len]; omega)] at hl
          cases hl
        · exact h
      have hi1 : (1 : Int) ≤ (s.size : Int) := by omega
      by_cases h2 : 2 ≤ s.size
      case neg =>
        have hi2 : ¬ (0 : Int) < (s.size : Int) - 1 := by omega
        have hn : nb = s.size - 1 := by rw [HNB.out, bodyN, if_pos hl, if_neg (fun h => h2 (by rw [← L_len]; exact h.1)), L_len]
        have h13 : True := trivial
        have H1 : Hid (s.extract 0 (s.size - 1) = rs) := by unfold Hid; rw [HRS.out, hn]
        have H2 : Hid (s.extract (s.size - 1) s.size = fe) := by unfold Hid; rw [HFE.out, hn]
        clear hl hn hlr hzr h13
        go_wp2_with (refine wpl_store rfl rfl stS1 rfl rfl (cs := [.string (s.extract (s.size - 1) s.size)]) rfl rfl (by intro u hu; rw [List.mem_singleton.1 hu]; rfl) HLB.out.x2 (Nat.le_of_ble_eq_true rfl) (row := [.int .i64 0, .string ⟨#[]⟩, .string ⟨#[]⟩, .string (s.extract (s.size - 1) s.size), .int .i64 (p : Int)]) rfl ?_; generalize hW4 : World.setRow _ _ _ = w3; have HL3 := Lib.hid (HLB.out.set hW4); clear hW4)
        go_meet
        exact ⟨by rw [← H1.out], by rw [← H2.out]; exact HL3.out⟩
      case pos =>
        have hi2 : (0 : Int) < (s.size : Int) - 1 := by omega
        have hg : (L s)[(L s).length - 2]? = some (s[s.size - 1 - 1]'(by omega)) := by
          rw [L_len, show s.size - 2 = s.size - 1 - 1 by omega, List.getElem?_eq_getElem (by rw [L_len]; omega)]
          rfl
        by_cases h13 : s[s.size - 1 - 1] = 13
        case pos =>
          have hq := beqB s[s.size - 1 - 1] 13 (by rw [h13]; rfl)
          have hn : nb = s.size - 1 - 1 := by rw [HNB.out, bodyN, if_pos hl, if_pos ⟨by rw [L_len]; exact h2, by rw [hg, h13]⟩, L_len]; omega
          clear hg
          have H1 : Hid (s.extract 0 (s.size - 1 - 1) = rs) := by unfold Hid; rw [HRS.out, hn]
          have H2 : Hid (s.extract (s.size - 1 - 1) s.size = fe) := by unfold Hid; rw [HFE.out, hn]
          clear hl hn hlr hzr h13
          go_wp2_with (refine wpl_store rfl rfl stS1 rfl rfl (cs := [.string (s.extract (s.size - 1 - 1) s.size)]) rfl rfl (by intro u hu; rw [List.mem_singleton.1 hu]; rfl) HLB.out.x2 (Nat.le_of_ble_eq_true rfl) (row := [.int .i64 0, .string ⟨#[]⟩, .string ⟨#[]⟩, .string (s.extract (s.size - 1 - 1) s.size), .int .i64 (p : Int)]) rfl ?_; generalize hW4 : World.setRow _ _ _ = w3; have HL3 := Lib.hid (HLB.out.set hW4); clear hW4)
          go_meet
          exact ⟨by rw [← H1.out], by rw [← H2.out]; exact HL3.out⟩
        case neg =>
          have hq := beqNB s[s.size - 1 - 1] 13 (fun h => h13 (UInt8.toNat_inj.1 (show s[s.size - 1 - 1].toNat = 13 by omega)))
          have hn : nb = s.size - 1 := by rw [HNB.out, bodyN, if_pos hl, if_neg (fun h => h13 (by have h' := h.2; rw [hg] at h'; exact Option.some.inj h')), L_len]
          clear hg
          have H1 : Hid (s.extract 0 (s.size - 1) = rs) := by unfold Hid; rw [HRS.out, hn]
          have H2 : Hid (s.extract (s.size - 1) s.size = fe) := by unfold Hid; rw [HFE.out, hn]
          clear hl hn hlr hzr h13
          go_wp2_with (refine wpl_store rfl rfl stS1 rfl rfl (cs := [.string (s.extract (s.size - 1) s.size)]) rfl rfl (by intro u hu; rw [List.mem_singleton.1 hu]; rfl) HLB.out.x2 (Nat.le_of_ble_eq_true rfl) (row := [.int .i64 0, .string ⟨#[]⟩, .string ⟨#[]⟩, .string (s.extract (s.size - 1) s.size), .int .i64 (p : Int)]) rfl ?_; generalize hW4 : World.setRow _ _ _ = w3; have HL3 := Lib.hid (HLB.out.set hW4); clear hW4)
          go_meet
          exact ⟨by rw [← H1.out], by rw [← H2.out]; exact HL3.out⟩
  case rest =>
  obtain ⟨hv, hlb⟩ := hcut
  subst hv
  clear HLB HLA
  have HLB := Lib.hid hlb
  clear hlb
  obtain ⟨sp, hsp⟩ : ∃ sp, sp = spcN (L rs) := ⟨_, rfl⟩
  have hspl : sp ≤ rs.size := by rw [hsp, ← L_len]; exact spcN_le _
  have HS0 : Hid (sp = 0 + spcN ((L rs).drop 0)) := by unfold Hid; rw [hsp, List.drop_zero, Nat.zero_add]
  have HSP : Hid (sp = spcN ((L s).take nb)) := by unfold Hid; rw [hsp, hlr]
  have HLR := Lib.hid hlr
  have HZR := Lib.hid hzr
  have hrle : rs.size ≤ 100000000000 := by omega
  clear hsp hlr hzr
  go_upto_block 0 with fail
  go_cut [] (fun wx => LB w wx [.int .i64 (sp : Int), .string ⟨#[]⟩, .string ⟨#[]⟩, .string fe, .int .i64 (p : Int)])
  case first =>
    go_wp2_with fail
    go_loopg [] (rs.size + 1) (fun gk wr => ∃ j : Nat, gk + j = rs.size + 1 ∧ j ≤ rs.size ∧ Hid (sp = j + spcN ((L rs).drop j)) ∧ Hid (LB w wr [.int .i64 (j : Int), .string ⟨#[]⟩, .string ⟨#[]⟩, .string fe, .int .i64 (p : Int)]))
    case atStart => exact ⟨0, by omega, Nat.zero_le _, HS0.out, HLB.out⟩
    case round =>
      clear HS0 HLB
      obtain ⟨j, hgj, hj, HS, HL⟩ := hrel
      obtain ⟨x0, -, -, -, -⟩ := row5 HL.out.x2
      have hj0 : (0 : Int) ≤ (j : Int) := by omega
      by_cases hlt : j < rs.size
      case neg =>
        have HF : Hid (sp = j) := by unfold Hid; rw [HS.out, L_drop_nil rs j (by omega)]; rfl
        have hji : ¬ (j : Int) < (rs.size : Int) := by omega
        clear HS
        go_wp2_with fail
        go_meet
        rw [HF.out]
        exact HL.out
      have hji : (j : Int) < (rs.size : Int) := by omega
      have hst := HS.out
      rw [drop_cons rs j hlt, spcN] at hst
      by_cases h32 : rs[j] = 32
      case neg =>
        rw [if_neg h32] at hst
        have hq := beqNB rs[j] 32 (fun h => h32 (UInt8.toNat_inj.1 (show rs[j].toNat = 32 by omega)))
        have HF : Hid (sp = j) := hst
        clear hst h32 HS
        go_wp2_with fail
        go_meet
        rw [HF.out]
        exact HL.out
      case pos =>
        rw [if_pos h32] at hst
        have hq := beqB rs[j] 32 (by rw [h32]; rfl)
        have HN : Hid (sp = (j + 1) + spcN ((L rs).drop (j + 1))) := by unfold Hid; omega
        clear hst h32 HS
        go_wp2_with (refine wpl_store rfl rfl stI1 rfl rfl (cs := [.int .i64 ((j : Int) + 1)]) rfl rfl (by intro u hu; rw [List.mem_singleton.1 hu]; rfl) HL.out.x2 (Nat.le_of_ble_eq_true rfl) (row := [.int .i64 ((j : Int) + 1), .string ⟨#[]⟩, .string ⟨#[]⟩, .string fe, .int .i64 (p : Int)]) rfl ?_; generalize hW4 : World.setRow _ _ _ = w4; have HL4 := Lib.hid (HL.out.set hW4); clear hW4)
        go_roundg (gk - 1)
        case measure => omega
        case rel => exact ⟨j + 1, by omega, by omega, HN.out, HL4.out⟩
  case rest =>
  clear HLB HS0
  have HLB := Lib.hid hcut
  clear hcut
  obtain ⟨ct, hct⟩ : ∃ ct : ByteArray, ct = rs.extract sp rs.size := ⟨_, rfl⟩
  have hlc : L ct = contL (L s) := by
    rw [hct, L_from]
    unfold contL
    rw [← HNB.out, ← HLR.out, HSP.out, HLR.out]
  have hzc : ct.size ≤ rs.size := by rw [← L_len, hct, L_from, List.length_drop, L_len]; omega
  have HCS := Lib.hid (fun w' => content_any ct w' (by omega))
  obtain ⟨cn, hcn⟩ : ∃ cn, cn = backS (L ct) (hashW 32 (L ct)) := ⟨_, rfl⟩
  rw [← hcn] at HCS
  have hcl : cn ≤ ct.size := by rw [hcn, ← L_len]; exact Nat.le_trans (backS_le _ _) (hashW_len _ _)
  have HCN : Hid (cn = contN (L s)) := by unfold Hid contN; rw [hcn, ← hlc]
  have HLC := Lib.hid hlc
  have HCT := Lib.hid hct
  clear hcn hlc hct
  obtain ⟨x0, -, -, -, -⟩ := row5 HLB.out.x2
  have hsp0 : (0 : Int) ≤ (sp : Int) := by omega
  have hsp1 : (sp : Int) ≤ (rs.size : Int) := by omega
  go_upto_region 11 with fail
  clear x0
  rw [← HCT.out]
  go_wp2_with fail
  refine (HCS.out _).mono ?_
  rintro e w5 ⟨rfl, hb⟩
  have HL5 := Lib.hid (HLB.out.below hb)
  clear hb HLB HCS
  have hcn0 : (0 : Int) ≤ (cn : Int) := by omega
  have hcn1 : (cn : Int) ≤ (ct.size : Int) := by omega
  go_upto_region 14 with (first
    | (refine wpl_store rfl rfl stS1 rfl rfl (cs := [.string (ct.extract cn ct.size)]) rfl rfl (by intro u hu; rw [List.mem_singleton.1 hu]; rfl) HL6.out.x2 (Nat.le_of_ble_eq_true rfl) (row := [.int .i64 (sp : Int), .string (ct.extract 0 cn), .string (ct.extract cn ct.size), .string fe, .int .i64 (p : Int)]) rfl ?_; generalize hW4 : World.setRow _ _ _ = w7; have HL7 := Lib.hid (HL6.out.set hW4); clear hW4)
    | (refine wpl_store rfl rfl stS1 rfl rfl (cs := [.string (ct.extract 0 cn)]) rfl rfl (by intro u hu; rw [List.mem_singleton.1 hu]; rfl) HL5.out.x2 (Nat.le_of_ble_eq_true rfl) (row := [.int .i64 (sp : Int), .string (ct.extract 0 cn), .string ⟨#[]⟩, .string fe, .int .i64 (p : Int)]) rfl ?_; generalize hW4 : World.setRow _ _ _ = w6; have HL6 := Lib.hid (HL5.out.set hW4); clear hW4))
  clear HL5 HL6
  have HCL : Hid (∀ j, j < 5 → w7.cell? ⟨w.heap.size + 1, 0 + j, none⟩ = ([.int .i64 (sp : Int), .string (ct.extract 0 cn), .string (ct.extract cn ct.size), .string fe, .int .i64 (p : Int)] : List Value)[j]?) := by
    intro j hj
    rw [Nat.zero_add, cell_of_row _ _ _ _ _ _ HL7.out.x2, List.getElem?_toArray]
  have HX1 := Lib.hid HL7.out.x1
  have HBW := Lib.hid HL7.out.b
  go_wp2_with (first
    | refine wpl_load rfl rfl stLn rfl (cs := [.int .i64 (sp : Int), .string (ct.extract 0 cn), .string (ct.extract cn ct.size), .string fe, .int .i64 (p : Int)]) rfl HCL.out ?_
    | (refine wpl_store rfl rfl stLn.2 rfl rfl (cs := [.int .i64 (sp : Int), .string (ct.extract 0 cn), .string (ct.extract cn ct.size), .string fe, .int .i64 (p : Int)]) rfl rfl (one5 _ _ _ _ _) HX1.out (Nat.le_refl 5) (row := [.int .i64 (sp : Int), .string (ct.extract 0 cn), .string (ct.extract cn ct.size), .string fe, .int .i64 (p : Int)]) rfl ?_; generalize hW9 : World.setRow _ _ _ = w9; obtain ⟨hd9, hk9, hz9, hb9⟩ := setRow_of hW9 HX1.out; clear hW9; refine RowKit.Hid.out ?_))
  unfold RowKit.Hid
  repeat go_step
  obtain ⟨z0, z1, z2, z3, z4⟩ := row5 hd9
  have HE : Hid (([.int .i64 (sp : Int), .string (ct.extract 0 cn), .string (ct.extract cn ct.size), .string fe, .int .i64 (p : Int)] : List Value) = lnC (lineP (L s) p)) := by
    unfold Hid lnC lineP
    rw [← HNB.out, ← HCN.out, ← HLC.out, ← HSP.out, mk_of (L_upto ct cn), mk_of (L_from ct cn), mk_of (t := fe) (by rw [HFE.out, L_from])]
  refine bodyPost_ret (v := .agg #[.int .i64 (sp : Int), .string (ct.extract 0 cn), .string (ct.extract cn ct.size), .string fe, .int .i64 (p : Int)]) (by simp [results, Tryz.results35, go_sem, z0, z1, z2, z3, z4]) rfl ⟨?_, HBW.out.trans (hb9 _ (Nat.le_refl _))⟩
  rw [← HE.out]
end Go.Proofs.YtgddhkanfcpipaaGreatDoor

namespace Go.Proofs.YtgddhkanfcpipaaGreatDoor
open Go.RowKit
set_option maxHeartbeats 4000000
set_option maxRecDepth 100000

/-- The lines, each with where it begins. -/
def lnV : Nat → List ByteArray → List Ln
  | _, [] => []
  | pos, b :: t => lineP (L b) pos :: lnV (pos + b.size) t
def linesR (s : ByteArray) : List Ln × Nat × Nat := if 1048576 < s.size then ([], 0, 10) else if badL (L s) < s.size then ([], badL (L s), 5) else (lnV 0 (lnsB s), 0, 0)
theorem lnF_small (s : ByteArray) : ∀ (f fr k : Nat), k ≤ s.size → ∀ b ∈ lnF s f fr k, b.size ≤ s.size := by
  have key : ∀ a b, (s.extract a b).size ≤ s.size := by
    intro a b
    rw [← L_len, L_extract, List.length_take, List.length_drop, L_len]
    omega
  intro f
  induction f with
  | zero =>
    intro fr k hk b hb
    rw [lnF] at hb
    split at hb
    · rw [List.mem_singleton.1 hb]; exact key _ _
    · cases hb
  | succ f ih =>
    intro fr k hk b hb
    rw [lnF] at hb
    split at hb
    · rename_i hlt
      split at hb
      · rcases List.mem_cons.1 hb with rfl | hb
        · exact key _ _
        · exact ih _ _ hlt b hb
      · exact ih _ _ hlt b hb
    · split at hb
      · rw [List.mem_singleton.1 hb]; exact key _ _
      · cases hb
theorem lnF_len (s : ByteArray) : ∀ (f fr k : Nat), (lnF s f fr k).length ≤ f + 1 := by
  intro f
  induction f with
  | zero =>
    intro fr k
    rw [lnF]
    split <;> simp
  | succ f ih =>
    intro fr k
    rw [lnF]
    split
    · split
      · rw [List.length_cons]
        have := ih (k + 1) (k + 1)
        omega
      · have := ih fr (k + 1)
        omega
    · split <;> simp
/-- What Lines hands back. -/
def LinesPost (w : World) (x : List Ln × Nat × Nat) (e : Ending) (w' : World) : Prop := ∃ v, e = .returned (.tuple #[v, .int .i64 (x.2.1 : Nat), .int .i64 (x.2.2 : Nat)]) ∧ (∃ base, w.heap.size ≤ base ∧ w'.ownsRow base 30 5 v x.1.length (x.1.flatMap lnC)) ∧ Below w.heap.size w w'
theorem own_cells {w : World} {base n : Nat} {e : TypeId} {v : Value} {xs : List Value} (h : w.ownsRow base e 1 v n xs) : ∃ a cap, v = .slice a n cap ∧ (0 < n → ∃ g, a = some ⟨g, 0, none⟩ ∧ g < w.heap.size ∧ ∀ j, j < n → w.cell? ⟨g, j, none⟩ = xs[j]?) := by
  rcases h.2 with ⟨rfl, h0⟩ | ⟨g, cap, cur, rfl, hb, hg, -⟩
  · subst h0
    exact ⟨_, _, rfl, fun h => absurd h (Nat.lt_irrefl _)⟩
  · exact ⟨_, _, rfl, fun _ => ⟨g, rfl, (Array.getElem?_eq_some_iff.1 hg).1, fun j hj => h.cellAt j (by omega)⟩⟩
theorem elemLn : Elem Tryz.prog 23 30 5 := elem_of (z := .agg #[.int .i64 0, .string ⟨#[]⟩, .string ⟨#[]⟩, .string ⟨#[]⟩, .int .i64 0]) (bytes := 64) Tryz.underlying23 (by kernel_rfl) (by decide) (by decide) rfl
theorem lnC_len (x : Ln) : (lnC x).length = 5 := rfl
theorem lnC_one (x : Ln) : ∀ u ∈ lnC x, u.oneCell' = true := one5 _ _ _ _ _
theorem ILines_any (s : ByteArray) (w : World) (hs : s.size ≤ 10000000000) (hT : TabU w) :
    Calls Tryz.prog 12 #[.string s] w (LinesPost w (linesR s)) := by
  obtain ⟨r, hr⟩ : ∃ r, r = linesR s := ⟨_, rfl⟩
  rw [← hr]
  unfold linesR at hr
  have HR := Lib.hid hr
  have HT := Lib.hid hT
  clear hr hT
  by_cases hbig : 1048576 < s.size
  case pos =>
    have HF : Hid (r = ([], 0, 10)) := by unfold Hid; rw [HR.out, if_pos hbig]
    have hb : ((1048576 : Int) < (s.size : Int)) = True := eq_true (by omega)
    clear HR hbig
    go_enter Tryz.func12, Tryz.ntmps12
    go_wp2_with fail
    go_ret3
    exact ⟨_, by rw [HF.out]; rfl, ⟨_, Nat.le_refl _, by rw [HF.out]; exact World.ownsRow_nil _ _ _ _⟩, Below.refl _ _⟩
  have hb : ((1048576 : Int) < (s.size : Int)) = False := eq_false (by omega)
  replace HR : Hid (r = if badL (L s) < s.size then ([], badL (L s), 5) else (lnV 0 (lnsB s), 0, 0)) := by unfold Hid; rw [HR.out, if_neg hbig]
  have HINV := Lib.hid (fun w' hT => invalidI_any s w' (by omega) hT)
  by_cases hbad : badL (L s) < s.size
  case pos =>
    have HF : Hid (r = ([], badL (L s), 5)) := by unfold Hid; rw [HR.out, if_pos hbad]
    have hinv : invR (L s) = ((badL (L s) : Nat) : Int) := by
      unfold invR
      rw [if_neg (by rw [L_len]; omega)]
    rw [hinv] at HINV
    clear HR hbad hinv hbig
    generalize badL (L s) = bd at *
    go_enter Tryz.func12, Tryz.ntmps12
    go_wp2_with fail
    refine (HINV.out _ HT.out).mono ?_
    rintro e w1 ⟨rfl, hb1⟩
    have HB1 := Lib.hid hb1
    clear hb1
    go_wp2_with fail
    go_ret3
    exact ⟨_, by rw [HF.out]; rfl, ⟨_, Nat.le_refl _, by rw [HF.out]; exact World.ownsRow_nil _ _ _ _⟩, HB1.out⟩
  have hinv : invR (L s) = -1 := by
    unfold invR
    have hle := bad_le (L s).length (L s)
    have : badL (L s) ≤ (L s).length := hle
    rw [if_pos (by rw [L_len] at this ⊢; omega)]
  rw [hinv] at HINV
  have HF : Hid (r = (lnV 0 (lnsB s), 0, 0)) := by unfold Hid; rw [HR.out, if_neg hbad]
  have HUL := Lib.hid (fun w' => ULines_any s w' hs)
  have HSM : Hid (∀ b ∈ lnsB s, b.size ≤ 1048576) := fun b hb => by have := lnF_small s s.size 0 0 (Nat.zero_le _) b hb; omega
  have hnl : (lnsB s).length ≤ 1048577 := by have := lnF_len s s.size 0 0; show (lnF s s.size 0 0).length ≤ _; omega
  clear HR hbad hinv hbig
  generalize lnsB s = ls at *
  go_enter Tryz.func12, Tryz.ntmps12
  go_upto_region 3 with fail
  clear hb
  go_wp2_with fail
  refine (HINV.out _ HT.out).mono ?_
  rintro e w1 ⟨rfl, hb1⟩
  have HB1 := Lib.hid hb1
  clear hb1 HINV
  go_upto_region 8 with fail
  go_wp2_with fail
  refine (HUL.out _).mono ?_
  rintro e w2 ⟨v2, rfl, hown, hb2⟩
  have HB2 := Lib.hid (HB1.out.trans (hb2.mono HB1.out.size))
  clear hb2 HUL
  obtain ⟨a, cap, rfl, hat⟩ := own_cells hown
  have HCE := Lib.hid hat
  clear hat hown
  go_wp2_with fail
  have HV0 : Hid (lnV 0 ls = [] ++ lnV 0 (ls.drop 0)) := rfl
  go_loopw [6, 7, 22] (fun ov pv iv wr => ∃ (pos : Nat) (acc : List Ln), iv = .int .i64 (acc.length : Int) ∧ pv = .int .i64 (pos : Int) ∧ acc.length ≤ ls.length ∧ pos ≤ acc.length * 1048576 ∧ Hid (lnV 0 ls = acc ++ lnV pos (ls.drop acc.length)) ∧ Hid (wr.ownsRow w2.heap.size 30 5 ov acc.length (acc.flatMap lnC)) ∧ Hid (Below w2.heap.size w2 wr)) (fun _ _ iv _ => ls.length - (intOf iv).toNat)
  case atStart => exact ⟨0, [], rfl, rfl, Nat.zero_le _, Nat.zero_le _, HV0.out, World.ownsRow_nil _ _ _ _, Below.refl _ _⟩
  case round =>
    clear HV0
    obtain ⟨pos, acc, rfl, rfl, hal, hpos, HV, HOWN, HBW⟩ := hrel
    by_cases hlt : acc.length < ls.length
    case neg =>
      have HX : Hid (lnV 0 ls = acc) := by unfold Hid; rw [HV.out, List.drop_of_length_le (by omega)]; exact List.append_nil _
      clear HV
      go_wp2_with fail
      go_ret3
      exact ⟨_, by rw [HF.out]; rfl, ⟨_, HB2.out.size, by rw [HF.out]; dsimp only; rw [HX.out]; exact HOWN.out⟩, HB2.out.trans (HBW.out.mono HB2.out.size)⟩
    obtain ⟨g, rfl, hg, hat⟩ := HCE.out (by omega)
    have hcell := hat acc.length hlt
    rw [List.getElem?_map, List.getElem?_eq_getElem hlt, Option.map_some] at hcell
    have y := (HBW.out.cell (p := ⟨g, acc.length, none⟩) hg).trans hcell
    have hbz := HSM.out _ (List.getElem_mem hlt)
    have HN : Hid (lnV 0 ls = (acc ++ [lineP (L ls[acc.length]) pos]) ++ lnV (pos + ls[acc.length].size) (ls.drop (acc.length + 1))) := by
      unfold Hid
      rw [HV.out, List.drop_eq_getElem_cons hlt, lnV, List.append_assoc]
      rfl
    generalize ls[acc.length] = b at *
    have HDV := Lib.hid (fun w' hT => divide_any b w' (by omega) hT)
    have HAL : Hid (acc.length < 100000000000) := by unfold Hid; omega
    clear hat hcell HV
    go_upto_region 11 with fail
    clear y
    go_wp2_with fail
    refine (HDV.out _ (HT.out.below (HB2.out.trans (HBW.out.mono HB2.out.size)))).mono ?_
    rintro e w5 ⟨rfl, hb5⟩
    have HB5 := Lib.hid hb5
    clear hb5 HDV
    have hp0 : (0 : Int) ≤ (pos : Int) := by omega
    have HSZ : Hid (w2.heap.size ≤ wr.heap.size) := HBW.out.size
    go_wp2_with (first
      | (at_builtin; refine wp_push elemLn rfl _ _ rfl (own_below (own_below HOWN.out HB5.out) HB7.out) (lnC (lineP (L b) pos)) rfl (lnC_one _) rfl rfl HAL.out (Nat.le_trans HSZ.out (Nat.le_trans HB5.out.size HB7.out.size)) ?_; intro v9 w9 hn9 hg9 hb9; have HO9 := Lib.hid hn9; have HB9 := Lib.hid ((HBW.out.trans ((HB5.out.trans (HB7.out.mono HB5.out.size)).mono HSZ.out)).trans hb9); clear hn9 hg9 hb9)
      | (refine wpl_slice rfl rfl elemLn rfl (cs := lnC (lineP (L b) pos)) rfl rfl (by decide) ?_)
      | refine wpl_load rfl rfl stLn rfl (cs := lnC (lineP (L b) pos)) rfl HC7.out ?_
      | (refine wpl_store rfl rfl stI1 rfl rfl (cs := [.int .i64 (pos : Int)]) rfl rfl (by intro u hu; rw [List.mem_singleton.1 hu]; rfl) HD6.out (Nat.le_of_ble_eq_true rfl) (row := lnC (lineP (L b) pos)) rfl ?_; generalize hW7 : World.setRow _ _ _ = w7; obtain ⟨hd7, -, hz7, hb7⟩ := setRow_of hW7 HD6.out; have HC7 : Hid (∀ j, j < 5 → w7.cell? ⟨w5.heap.size, 0 + j, none⟩ = (lnC (lineP (L b) pos))[j]?) := (fun j hj => by rw [Nat.zero_add, cell_of_row _ _ _ _ _ _ hd7, List.getElem?_toArray]); have HB7 := Lib.hid (HB6.out.trans (hb7 _ (Nat.le_refl _))); clear hW7 hd7 hz7 hb7)
      | (refine wpl_new rfl rfl stLn rfl (cs := lnC (lineP (L b) 0)) rfl rfl (lnC_one _) rfl rfl rfl ?_; generalize hW6 : World.alloc w5 _ = w6; obtain ⟨hd6, -, hz6, hb6⟩ := alloc_of hW6; have HD6 := Lib.hid hd6; have HB6 := Lib.hid hb6; clear hW6 hd6 hz6 hb6))
    exact ⟨⟨pos + b.size, acc ++ [lineP (L b) pos], by rw [List.length_append]; go_num, by go_num, by rw [List.length_append]; simp; omega, by rw [List.length_append]; simp; omega, by unfold Hid; rw [HN.out, List.length_append]; rfl, by unfold Hid; rw [List.length_append, List.flatMap_append]; simpa using HO9.out, HB9.out⟩, by simp [intOf]; omega⟩
end Go.Proofs.YtgddhkanfcpipaaGreatDoor

namespace Go.Proofs.YtgddhkanfcpipaaGreatDoor
open Go.RowKit
set_option maxHeartbeats 4000000
set_option maxRecDepth 100000

theorem RLines_any (s : ByteArray) (w : World) (hs : s.size ≤ 10000000000) :
    Calls Tryz.prog 13 #[.string s] w (LinesPost w (linesR s)) := by
  obtain ⟨r, hr⟩ : ∃ r, r = linesR s := ⟨_, rfl⟩
  rw [← hr]
  have HSO := Lib.hid (fun w' => Source_any s w' (by omega))
  obtain ⟨n, hn⟩ : ∃ n, n = srcR s := ⟨_, rfl⟩
  have HR : Hid (r = if n.2 ≠ 0 then ([], n.1, n.2) else (lnV 0 (lnsB s), 0, 0)) := by
    unfold Hid
    rw [hr, hn]
    unfold linesR srcR
    split
    · rfl
    split
    · rfl
    · rfl
  rw [← hn] at HSO
  clear hr
  obtain ⟨n1, n2⟩ := n
  dsimp only at HR HSO
  by_cases h0 : n2 = 0
  case neg =>
    have HF : Hid (r = ([], n1, n2)) := by unfold Hid; rw [HR.out, if_pos h0]
    have hq : ((n2 : Int) != 0) = true := by rw [bne_iff_ne]; omega
    clear HR hn h0
    go_enter Tryz.func13, Tryz.ntmps13
    go_wp2_with fail
    refine (HSO.out _).mono ?_
    rintro e w1 ⟨rfl, hb1⟩
    have HB1 := Lib.hid hb1
    clear hb1
    go_wp2_with fail
    go_ret3
    exact ⟨_, by rw [HF.out]; rfl, ⟨_, Nat.le_refl _, by rw [HF.out]; exact World.ownsRow_nil _ _ _ _⟩, HB1.out⟩
  subst h0
  have HF : Hid (r = (lnV 0 (lnsB s), 0, 0)) := by unfold Hid; rw [HR.out, if_neg (fun h => h rfl)]
  have HUL := Lib.hid (fun w' => RLines3_any s w' hs)
  have hbz : s.size ≤ 1048576 := by
    unfold srcR at hn
    split at hn
    · cases hn
    · omega
  have HSM : Hid (∀ b ∈ lnsB s, b.size ≤ 1048576) := fun b hb => by have := lnF_small s s.size 0 0 (Nat.zero_le _) b hb; omega
  have hnl : (lnsB s).length ≤ 1048577 := by have := lnF_len s s.size 0 0; show (lnF s s.size 0 0).length ≤ _; omega
  clear HR hn hbz
  generalize lnsB s = ls at *
  go_enter Tryz.func13, Tryz.ntmps13
  go_wp2_with fail
  refine (HSO.out _).mono ?_
  rintro e w1 ⟨rfl, hb1⟩
  have HB1 := Lib.hid hb1
  clear hb1 HSO
  go_wp2_with fail
  refine (HUL.out _).mono ?_
  rintro e w2 ⟨v2, rfl, hown, hb2⟩
  have HB2 := Lib.hid (HB1.out.trans (hb2.mono HB1.out.size))
  clear hb2 HUL
  obtain ⟨a, cap, rfl, hat⟩ := own_cells hown
  have HCE := Lib.hid hat
  clear hat hown
  go_wp2_with fail
  have HV0 : Hid (lnV 0 ls = [] ++ lnV 0 (ls.drop 0)) := rfl
  go_loopw [7, 8, 10] (fun ov pv iv wr => ∃ (pos : Nat) (acc : List Ln), iv = .int .i64 (acc.length : Int) ∧ pv = .int .i64 (pos : Int) ∧ acc.length ≤ ls.length ∧ pos ≤ acc.length * 1048576 ∧ Hid (lnV 0 ls = acc ++ lnV pos (ls.drop acc.length)) ∧ Hid (wr.ownsRow w2.heap.size 30 5 ov acc.length (acc.flatMap lnC)) ∧ Hid (Below w2.heap.size w2 wr)) (fun _ _ iv _ => ls.length - (intOf iv).toNat)
  case atStart => exact ⟨0, [], rfl, rfl, Nat.zero_le _, Nat.zero_le _, HV0.out, World.ownsRow_nil _ _ _ _, Below.refl _ _⟩
  case round =>
    clear HV0
    obtain ⟨pos, acc, rfl, rfl, hal, hpos, HV, HOWN, HBW⟩ := hrel
    by_cases hlt : acc.length < ls.length
    case neg =>
      have HX : Hid (lnV 0 ls = acc) := by unfold Hid; rw [HV.out, List.drop_of_length_le (by omega)]; exact List.append_nil _
      clear HV
      go_wp2_with fail
      go_ret3
      exact ⟨_, by rw [HF.out]; rfl, ⟨_, HB2.out.size, by rw [HF.out]; dsimp only; rw [HX.out]; exact HOWN.out⟩, HB2.out.trans (HBW.out.mono HB2.out.size)⟩
    obtain ⟨g, rfl, hg, hat⟩ := HCE.out (by omega)
    have hcell := hat acc.length hlt
    rw [List.getElem?_map, List.getElem?_eq_getElem hlt, Option.map_some] at hcell
    have y := (HBW.out.cell (p := ⟨g, acc.length, none⟩) hg).trans hcell
    have hbz := HSM.out _ (List.getElem_mem hlt)
    have HN : Hid (lnV 0 ls = (acc ++ [lineP (L ls[acc.length]) pos]) ++ lnV (pos + ls[acc.length].size) (ls.drop (acc.length + 1))) := by
      unfold Hid
      rw [HV.out, List.drop_eq_getElem_cons hlt, lnV, List.append_assoc]
      rfl
    generalize ls[acc.length] = b at *
    have HDV := Lib.hid (fun w' => line_any b pos w' (by omega))
    have HAL : Hid (acc.length < 100000000000) := by unfold Hid; omega
    have HY : Hid (w2.cell? ⟨g, acc.length, none⟩ = some (.string b)) := hcell
    have hp0 : (0 : Int) ≤ (pos : Int) := by omega
    have HSZ : Hid (w2.heap.size ≤ wr.heap.size) := HBW.out.size
    clear hat hcell HV
    go_wp2_with fail
    refine (HDV.out _).mono ?_
    rintro e w5 ⟨rfl, hb5⟩
    have HB5 := Lib.hid hb5
    clear hb5 HDV y
    go_wp2_with (first
      | (at_builtin; refine wp_push elemLn rfl _ _ rfl (own_below HOWN.out HB5.out) (lnC (lineP (L b) pos)) rfl (lnC_one _) rfl rfl HAL.out (Nat.le_trans HSZ.out HB5.out.size) ?_; intro v9 w9 hn9 hg9 hb9; have HO9 := Lib.hid hn9; have HB9 := Lib.hid ((HBW.out.trans (HB5.out.mono HSZ.out)).trans hb9); have y9 := (HB9.out.cell (p := ⟨g, acc.length, none⟩) hg).trans HY.out; clear hn9 hg9 hb9)
      | (refine wpl_slice rfl rfl elemLn rfl (cs := lnC (lineP (L b) pos)) rfl rfl (by decide) ?_))
    exact ⟨⟨pos + b.size, acc ++ [lineP (L b) pos], by rw [List.length_append]; go_num, by go_num, by rw [List.length_append]; simp; omega, by rw [List.length_append]; simp; omega, by unfold Hid; rw [HN.out, List.length_append]; rfl, by unfold Hid; rw [List.length_append, List.flatMap_append]; simpa using HO9.out, HB9.out⟩, by simp [intOf]; omega⟩
end Go.Proofs.YtgddhkanfcpipaaGreatDoor
