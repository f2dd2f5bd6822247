/- value.Copy, datakitref07.room and Small walked. Conditions: at most 10^6 values in all. -/
import Derived.Test.YthdninnjjmhpfaaGreatDoorTd
namespace Go.Proofs.YthdninnjjmhpfaaGreatDoor
open Go.RowKit
set_option maxHeartbeats 4000000
set_option maxRecDepth 100000

theorem two_allocs {w w1 : World} {x y : Obj} (hb : Below ((w.alloc x).alloc y).heap.size ((w.alloc x).alloc y) w1) : Below w.heap.size w w1 ∧ w1.heap[w.heap.size]? = some x ∧ w1.heap[w.heap.size + 1]? = some y ∧ w.heap.size + 2 ≤ w1.heap.size := by
  refine ⟨(((Below.refl _ _).alloc (Nat.le_refl _) _).alloc (by simp) _).trans (hb.mono (by simp; omega)), ?_, ?_, ?_⟩
  · exact (hb.block _ (by simp; omega)).trans ((heap_alloc_old _ _ (by simp)).trans (heap_alloc_new w _))
  · refine (hb.block _ (by simp)).trans ?_
    have := heap_alloc_new (w.alloc x) y
    simpa using this
  · have := hb.size
    simp at this
    omega
theorem Copy_any (v : V) (c : VC) (w : World) (hn : nodV v ≤ 1000000) (hd : depV v ≤ 65536) (hv : RdV w c v) :
    Calls Tryz.prog 24 #[aggV c] w (CpPost w v) := by
  obtain ⟨h, a1, a2, a3, n1, n2, n3, m1, m2, m3, rfl⟩ := hv.forms
  have HV := Lib.hid hv
  clear hv
  simp only [aggV]
  go_enter Tryz.func24, Tryz.ntmps24
  go_wp2_with fail
  refine (copied_any _ v ⟨h, .slice a1 n1 m1, .slice a2 n2 m2, .slice a3 n3 m3⟩ _ 65536 (Nat.le_refl _) hn (by omega) (by omega) (HV.out.stays (((Below.refl _ _).alloc (Nat.le_refl _) _).alloc (by simp) _))).mono ?_
  rintro e w1 ⟨c, rfl, hrd, hb⟩
  obtain ⟨⟨a0, a1, a2, a3, a4, a5, a6, a7, a8, a9, a10⟩, b1, b2, b3, o1, o2, o3, p1, p2, p3, rfl⟩ := hrd.forms
  obtain ⟨hbw, _, hy, hz⟩ := two_allocs hb
  obtain ⟨⟨y0, y1, y2, y3, y4, y5, y6, y7, y8, y9, y10, y11, y12⟩, yf⟩ := box13 hy
  have hrd2 : ∀ w9 : World, (∀ b, w.heap.size + 2 ≤ b → w9.heap[b]? = w1.heap[b]?) → w9.heap.size = w1.heap.size → RdI w9 (fun b => w.heap.size ≤ b) ⟨⟨a0, a1, a2, a3, a4, a5, a6, a7, a8, a9, a10⟩, .slice b1 o1 p1, .slice b2 o2 p2, .slice b3 o3 p3⟩ v :=
    fun w9 hk hz9 => (hrd.kept (fun b hb _ => hk b (by simp at hb; omega)) (by omega)).mono (fun b hb => by simp at hb; omega)
  have HRD := Lib.hid hrd2
  have HB := Lib.hid hbw
  clear hrd hb hy hrd2 hbw
  go_wp2_with fail
  refine bodyPost_ret (v := aggV ⟨⟨a0, a1, a2, a3, a4, a5, a6, a7, a8, a9, a10⟩, .slice b1 o1 p1, .slice b2 o2 p2, .slice b3 o3 p3⟩) (by simp [results, Tryz.results24, go_sem, y0, y1, y2, y3, y4, y5, y6, y7, y8, y9, y10, y11, y12]) rfl ⟨_, rfl, HRD.out _ (fun b hb => ?_) ?_, ?_⟩
  · repeat rw [heap_setCell_other _ _ b _ (by dsimp only; omega)]
  · simp
  · repeat refine Below.setCell ?_ (by dsimp only; omega) _
    exact HB.out

theorem roomV_bd : ∀ (n : Nat) (v : V) (left d : Int), SizeOf.sizeOf v ≤ n → 0 ≤ left → -1 ≤ roomV v left d ∧ roomV v left d ≤ left := by
  intro n
  induction n with
  | zero => intro v left d hn; exfalso; cases v; rw [V.mk.sizeOf_spec] at hn; omega
  | succ n ih =>
    intro v left d hn h0
    obtain ⟨h, l, f⟩ := v
    have hl : ∀ (m : Nat) (t : List V) (left d : Int), t.length = m → (∀ x ∈ t, SizeOf.sizeOf x ≤ n) → -1 ≤ left → -1 ≤ roomL t left d ∧ roomL t left d ≤ left := by
      intro m
      induction m with
      | zero => intro t left d ht _ h; obtain rfl := List.length_eq_zero_iff.1 ht; rw [roomL]; omega
      | succ m ihm =>
        intro t left d ht hs h
        obtain ⟨x, t, rfl⟩ : ∃ x u, t = x :: u := by cases t with | nil => simp at ht | cons x u => exact ⟨x, u, rfl⟩
        rw [roomL]
        split
        · omega
        · obtain ⟨h1, h2⟩ := ih x left d (hs x (by simp)) (by omega)
          obtain ⟨h3, h4⟩ := ihm t (roomV x left d) d (by simpa using ht) (fun y hy => hs y (by simp [hy])) h1
          omega
    have hf : ∀ (m : Nat) (t : List (ByteArray × V)) (left d : Int), t.length = m → (∀ x ∈ t, SizeOf.sizeOf x.2 ≤ n) → -1 ≤ left → -1 ≤ roomF t left d ∧ roomF t left d ≤ left := by
      intro m
      induction m with
      | zero => intro t left d ht _ h; obtain rfl := List.length_eq_zero_iff.1 ht; rw [roomF]; omega
      | succ m ihm =>
        intro t left d ht hs h
        obtain ⟨k, x, t, rfl⟩ : ∃ k x u, t = (k, x) :: u := by cases t with | nil => simp at ht | cons x u => exact ⟨x.1, x.2, u, rfl⟩
        rw [roomF]
        split
        · omega
        · obtain ⟨h1, h2⟩ := ih x left d (hs (k, x) (by simp)) (by omega)
          obtain ⟨h3, h4⟩ := ihm t (roomV x left d) d (by simpa using ht) (fun y hy => hs y (by simp [hy])) h1
          omega
    rw [roomV_mk]
    split
    · omega
    · obtain ⟨h1, h2⟩ := hl _ l (left - 1) (d - 1) rfl (fun x hx => by
        obtain ⟨i, hi, rfl⟩ := List.getElem_of_mem hx
        have := sz_l h l f i hi
        omega) (by omega)
      obtain ⟨h3, h4⟩ := hf _ f (roomL l (left - 1) (d - 1)) (d - 1) rfl (fun x hx => by
        obtain ⟨i, hi, rfl⟩ := List.getElem_of_mem hx
        have := sz_f h l f i hi
        omega) h1
      omega
theorem room_any : ∀ (n : Nat) (v : V) (c : VC) (w : World) (left depth : Int), SizeOf.sizeOf v ≤ n → 0 ≤ left → left ≤ 1000000 → 0 ≤ depth → depth ≤ 1000 → RdV w c v →
    Calls Tryz.prog 27 #[aggV c, .int .i64 left, .int .i64 depth] w fun e w' => e = .returned (.int .i64 (roomV v left depth)) ∧ Below w.heap.size w w' := by
  intro n
  induction n with
  | zero => intro v c w left depth hn; exfalso; cases v; rw [V.mk.sizeOf_spec] at hn; omega
  | succ n ih =>
    intro v c w left depth hn h0 h1 hd0 hd1 hv
    have IH := Lib.hid ih; clear ih
    cases hv with
    | mk h l f bv lv fv lc fc ok hB hl hL hf hK hF _ _ _ =>
    obtain ⟨ba, bcap, rfl, hb1, ⟨hb2, _⟩, hb3, hb4⟩ := hB
    obtain ⟨la, lcap, rfl, hl1, ⟨hl2, _⟩, hl3, hl4⟩ := hl
    obtain ⟨fa, fcap, rfl, hf1, ⟨hf2, _⟩, hf3, hf4⟩ := hf
    have HL := Lib.hid hl4; clear hl4
    have HFc := Lib.hid hf4; clear hf4
    have HLi := Lib.hid hL; clear hL
    have HFi := Lib.hid hF; clear hF
    clear hb4 hb3 hb2 hb1 hl3 hf3 hK ok
    obtain ⟨a0, a1, a2, a3, a4, a5, a6, a7, a8, a9, a10⟩ := h
    simp only [aggV]
    have HR := Lib.hid (roomV_mk ⟨a0, a1, a2, a3, a4, a5, a6, a7, a8, a9, a10⟩ l f left depth)
    by_cases hc1 : depth ≤ 0
    · have HF : Hid (roomV (.mk ⟨a0, a1, a2, a3, a4, a5, a6, a7, a8, a9, a10⟩ l f) left depth = -1) := by unfold Hid; rw [HR.out, if_pos (by omega)]
      clear HR
      generalize roomV (.mk ⟨a0, a1, a2, a3, a4, a5, a6, a7, a8, a9, a10⟩ l f) left depth = r at *
      go_enter Tryz.func27, Tryz.ntmps27
      go_wp2_with fail
      go_ret
      exact ⟨by rw [HF.out]; rfl, (Below.refl _ _).alloc (Nat.le_refl _) _⟩
    by_cases hc2 : left - 1 < (l.length : Int)
    · have HF : Hid (roomV (.mk ⟨a0, a1, a2, a3, a4, a5, a6, a7, a8, a9, a10⟩ l f) left depth = -1) := by unfold Hid; rw [HR.out, if_pos (by omega)]
      clear HR
      generalize roomV (.mk ⟨a0, a1, a2, a3, a4, a5, a6, a7, a8, a9, a10⟩ l f) left depth = r at *
      go_enter Tryz.func27, Tryz.ntmps27
      go_wp2_with fail
      go_ret
      exact ⟨by rw [HF.out]; rfl, (Below.refl _ _).alloc (Nat.le_refl _) _⟩
    by_cases hc3 : left - 1 < (f.length : Int)
    · have HF : Hid (roomV (.mk ⟨a0, a1, a2, a3, a4, a5, a6, a7, a8, a9, a10⟩ l f) left depth = -1) := by unfold Hid; rw [HR.out, if_pos (by omega)]
      clear HR
      generalize roomV (.mk ⟨a0, a1, a2, a3, a4, a5, a6, a7, a8, a9, a10⟩ l f) left depth = r at *
      go_enter Tryz.func27, Tryz.ntmps27
      go_wp2_with fail
      go_ret
      exact ⟨by rw [HF.out]; rfl, (Below.refl _ _).alloc (Nat.le_refl _) _⟩
    have HF : Hid (roomV (.mk ⟨a0, a1, a2, a3, a4, a5, a6, a7, a8, a9, a10⟩ l f) left depth = roomF f (roomL l (left - 1) (depth - 1)) (depth - 1)) := by unfold Hid; rw [HR.out, if_neg (by omega)]
    clear HR
    have HSL := Lib.hid (fun i hi => sz_l ⟨a0, a1, a2, a3, a4, a5, a6, a7, a8, a9, a10⟩ l f i hi)
    have HSF := Lib.hid (fun i hi => sz_f ⟨a0, a1, a2, a3, a4, a5, a6, a7, a8, a9, a10⟩ l f i hi)
    have HN := Lib.hid hn; clear hn
    generalize roomV (.mk ⟨a0, a1, a2, a3, a4, a5, a6, a7, a8, a9, a10⟩ l f) left depth = r at *
    go_enter Tryz.func27, Tryz.ntmps27
    go_wp2_with fail
    have hx : (w.alloc (.cells #[.int .i64 a0, .bool a1, .bool a2, .string a3, .int .i64 a4, .int .i64 a5, .int .i64 a6, .int .i64 a7, .int .i64 a8, .string a9, .slice ba a10.length bcap, .slice la l.length lcap, .slice fa f.length fcap] 30)).heap[w.heap.size]? = some (.cells #[.int .i64 a0, .bool a1, .bool a2, .string a3, .int .i64 a4, .int .i64 a5, .int .i64 a6, .int .i64 a7, .int .i64 a8, .string a9, .slice ba a10.length bcap, .slice la l.length lcap, .slice fa f.length fcap] 30 (0, 0)) := heap_alloc_new w _
    have hb0 : Below w.heap.size w (w.alloc (.cells #[.int .i64 a0, .bool a1, .bool a2, .string a3, .int .i64 a4, .int .i64 a5, .int .i64 a6, .int .i64 a7, .int .i64 a8, .string a9, .slice ba a10.length bcap, .slice la l.length lcap, .slice fa f.length fcap] 30)) := (Below.refl _ _).alloc (Nat.le_refl _) _
    have hz0 : w.heap.size < (w.alloc (.cells #[.int .i64 a0, .bool a1, .bool a2, .string a3, .int .i64 a4, .int .i64 a5, .int .i64 a6, .int .i64 a7, .int .i64 a8, .string a9, .slice ba a10.length bcap, .slice la l.length lcap, .slice fa f.length fcap] 30)).heap.size := by simp
    have HX := Lib.hid hx
    have HB0 := Lib.hid hb0
    have HZ0 := Lib.hid hz0
    clear hx hb0 hz0
    generalize w.alloc (.cells #[.int .i64 a0, .bool a1, .bool a2, .string a3, .int .i64 a4, .int .i64 a5, .int .i64 a6, .int .i64 a7, .int .i64 a8, .string a9, .slice ba a10.length bcap, .slice la l.length lcap, .slice fa f.length fcap] 30) = w1 at *
    obtain ⟨RL, hRL⟩ : ∃ RL : Int, RL = roomL l (left - 1) (depth - 1) := ⟨_, rfl⟩
    have HRL := Lib.hid hRL
    rw [← hRL] at HF
    clear hRL
    go_loopw [1, 7] (fun cv iv wr => ∃ (k : Nat) (cur : Int), k ≤ l.length ∧ iv = .int .i64 k ∧ cv = .int .i64 cur ∧ -1 ≤ cur ∧ cur ≤ left - 1 ∧ Hid (RL = roomL (l.drop k) cur (depth - 1)) ∧ Below w1.heap.size w1 wr) (fun _ iv _ => l.length - (intOf iv).toNat)
    case atStart => exact ⟨0, left - 1, by omega, rfl, rfl, by omega, by omega, by unfold Hid; rw [HRL.out, List.drop_zero], Below.refl _ _⟩
    case round =>
      obtain ⟨k, cur, hk, rfl, rfl, hcl, hcu, HC, hbw⟩ := hrel
      obtain ⟨⟨x0, x1, x2, x3, x4, x5, x6, x7, x8, x9, x10, x11, x12⟩, xf⟩ := box13 ((hbw.block w.heap.size HZ0.out).trans HX.out)
      clear x0 x1 x2 x3 x4 x5 x6 x7 x8 x9 x10 xf
      obtain ⟨q, hq⟩ : ∃ q : Bool, q = decide (k < l.length ∧ 0 ≤ cur) := ⟨_, rfl⟩
      have HQ := Lib.hid hq
      clear hq
      go_upto_region 5 with fail
      go_cut [35] (fun v wx => v = .bool q ∧ wr = wx)
      case first =>
        by_cases hlt : k < l.length
        case neg =>
          obtain rfl : q = false := by rw [HQ.out]; exact decide_eq_false (fun h => hlt h.1)
          go_wp2_with fail
          go_meet
          exact ⟨rfl, rfl⟩
        case pos =>
          by_cases hc : 0 ≤ cur
          case pos =>
            obtain rfl : q = true := by rw [HQ.out]; exact decide_eq_true ⟨hlt, hc⟩
            go_wp2_with fail
            go_meet
            exact ⟨rfl, rfl⟩
          case neg =>
            obtain rfl : q = false := by rw [HQ.out]; exact decide_eq_false (fun h => hc h.2)
            go_wp2_with fail
            go_meet
            exact ⟨rfl, rfl⟩
      case rest =>
      obtain ⟨rfl, rfl⟩ := hcut
      cases q with
      | true =>
        obtain ⟨hlt, hc⟩ := of_decide_eq_true HQ.out.symm
        clear HQ
        obtain ⟨g, o, rfl, hg, hat⟩ := HL.out (by omega)
        have hbw0 : Below w.heap.size w wr := HB0.out.trans (hbw.mono (by have := HZ0.out; omega))
        have hrd := (HLi.out k hlt).stays hbw0
        have hsz := HSL.out k hlt
        have hnn := HN.out
        have hc13 := fun j hj => (hbw0.cell hg).trans (hat k hlt j hj)
        have HIH := Lib.hid (IH.out l[k] (lc k) wr cur (depth - 1) (by omega) (by omega) (by omega) (by omega) (by omega) hrd)
        have HS : Hid (RL = roomL (l.drop (k + 1)) (roomV l[k] cur (depth - 1)) (depth - 1)) := by unfold Hid; rw [HC.out, roomL_drop l k hlt _ _ hc]
        have hbd := roomV_bd _ l[k] cur (depth - 1) (Nat.le_refl _) hc
        have hfm := hrd.forms
        clear hat hrd hsz hnn HC
        generalize roomV l[k] cur (depth - 1) = r2 at *
        generalize lc k = c at *
        obtain ⟨⟨p0, p1, p2, p3, p4, p5, p6, p7, p8, p9, p10⟩, q1, q2, q3, n1, n2, n3, m1, m2, m3, rfl⟩ := hfm
        obtain ⟨c0, c1, c2, c3, c4, c5, c6, c7, c8, c9, c10, c11, c12⟩ := cells13 hc13
        simp only at c0 c1 c2 c3 c4 c5 c6 c7 c8 c9 c10 c11 c12
        clear hc13
        obtain ⟨hb1, hb2⟩ := hbd
        go_wp2_with fail
        refine HIH.out.mono ?_
        rintro e w4 ⟨rfl, hb5⟩
        have hb6 := hbw.trans (hb5.mono hbw.size)
        go_wp2_with fail
        exact ⟨⟨k + 1, r2, by omega, rfl, rfl, hb1, by omega, HS, hb6⟩, by simp [intOf]; omega⟩
      | false =>
        have HC2 : Hid (RL = cur) := by
          unfold Hid
          rw [HC.out]
          have := of_decide_eq_false HQ.out.symm
          by_cases hlt : k < l.length
          · exact roomL_neg _ _ _ (by omega)
          · rw [List.drop_of_length_le (by omega), roomL]
        clear HC HQ
        go_wp2_with fail
        have HBW := Lib.hid hbw
        have HX2 := Lib.hid ((hbw.block w.heap.size HZ0.out).trans HX.out)
        have HZ2 := Lib.hid (Nat.lt_of_lt_of_le HZ0.out hbw.size)
        have HB2 := Lib.hid (HB0.out.trans (hbw.mono (Nat.le_of_lt HZ0.out)))
        clear hbw HX HZ0 HB0 x11 x12 HL HLi HSL
        obtain ⟨wo, rfl⟩ : ∃ wo : World, wo = wr := ⟨_, rfl⟩
        go_loopw [1, 8] (fun cv iv wr => ∃ (k : Nat) (cu : Int), k ≤ f.length ∧ iv = .int .i64 k ∧ cv = .int .i64 cu ∧ -1 ≤ cu ∧ cu ≤ left - 1 ∧ Hid (r = roomF (f.drop k) cu (depth - 1)) ∧ Below wo.heap.size wo wr) (fun _ iv _ => f.length - (intOf iv).toNat)
        case atStart => exact ⟨0, cur, by omega, rfl, rfl, by omega, by omega, by unfold Hid; rw [HF.out, HC2.out, List.drop_zero], Below.refl _ _⟩
        case round =>
          clear HF HC2
          obtain ⟨wq, rfl⟩ : ∃ wq : World, wq = wr := ⟨_, rfl⟩
          obtain ⟨k, cu, hk, rfl, rfl, hcl, hcu, HC, hbw⟩ := hrel
          obtain ⟨⟨x0, x1, x2, x3, x4, x5, x6, x7, x8, x9, x10, x11, x12⟩, xf⟩ := box13 ((hbw.block w.heap.size HZ2.out).trans HX2.out)
          clear x0 x1 x2 x3 x4 x5 x6 x7 x8 x9 x10 xf
          obtain ⟨q, hq⟩ : ∃ q : Bool, q = decide (k < f.length ∧ 0 ≤ cu) := ⟨_, rfl⟩
          have HQ := Lib.hid hq
          clear hq
          go_upto_region 9 with fail
          go_cut [55] (fun v wx => v = .bool q ∧ wq = wx)
          case first =>
            by_cases hlt : k < f.length
            case neg =>
              obtain rfl : q = false := by rw [HQ.out]; exact decide_eq_false (fun h => hlt h.1)
              go_wp2_with fail
              go_meet
              exact ⟨rfl, rfl⟩
            case pos =>
              by_cases hc : 0 ≤ cu
              case pos =>
                obtain rfl : q = true := by rw [HQ.out]; exact decide_eq_true ⟨hlt, hc⟩
                go_wp2_with fail
                go_meet
                exact ⟨rfl, rfl⟩
              case neg =>
                obtain rfl : q = false := by rw [HQ.out]; exact decide_eq_false (fun h => hc h.2)
                go_wp2_with fail
                go_meet
                exact ⟨rfl, rfl⟩
          case rest =>
          obtain ⟨rfl, rfl⟩ := hcut
          cases q with
          | true =>
            obtain ⟨hlt, hc⟩ := of_decide_eq_true HQ.out.symm
            clear HQ
            obtain ⟨g, o, rfl, hg, hat⟩ := HFc.out (by omega)
            have hbw0 : Below w.heap.size w wq := HB2.out.trans (hbw.mono (by have := HZ2.out; omega))
            have hrd := (HFi.out k hlt).stays hbw0
            have hsz := HSF.out k hlt
            have hnn := HN.out
            have hc13 : ∀ j, j < 13 → wq.cell? ⟨g, o + k * 14 + 1 + j, none⟩ = (fc k).cells[j]? := fun j hj => by have := (hbw0.cell hg).trans (hat k hlt (j + 1) (by omega)); rw [show o + k * 14 + 1 + j = o + k * 14 + (j + 1) by omega]; exact this
            have HIH := Lib.hid (IH.out f[k].2 (fc k) wq cu (depth - 1) (by omega) (by omega) (by omega) (by omega) (by omega) hrd)
            have HS : Hid (r = roomF (f.drop (k + 1)) (roomV f[k].2 cu (depth - 1)) (depth - 1)) := by unfold Hid; rw [HC.out, roomF_drop f k hlt _ _ hc]
            have hbd := roomV_bd _ f[k].2 cu (depth - 1) (Nat.le_refl _) hc
            have hfm := hrd.forms
            clear hat hrd hsz hnn HC
            generalize roomV f[k].2 cu (depth - 1) = r2 at *
            generalize fc k = c at *
            obtain ⟨⟨p0, p1, p2, p3, p4, p5, p6, p7, p8, p9, p10⟩, q1, q2, q3, n1, n2, n3, m1, m2, m3, rfl⟩ := hfm
            obtain ⟨c0, c1, c2, c3, c4, c5, c6, c7, c8, c9, c10, c11, c12⟩ := cells13 hc13
            simp only at c0 c1 c2 c3 c4 c5 c6 c7 c8 c9 c10 c11 c12
            clear hc13
            obtain ⟨hb1, hb2⟩ := hbd
            go_wp2_with fail
            refine HIH.out.mono ?_
            rintro e w4 ⟨rfl, hb5⟩
            have hb6 := hbw.trans (hb5.mono hbw.size)
            go_wp2_with fail
            exact ⟨⟨k + 1, r2, by omega, rfl, rfl, hb1, by omega, HS, hb6⟩, by simp [intOf]; omega⟩
          | false =>
            have HC2 : Hid (r = cu) := by
              unfold Hid
              rw [HC.out]
              have := of_decide_eq_false HQ.out.symm
              by_cases hlt : k < f.length
              · exact roomF_neg _ _ _ (by omega)
              · rw [List.drop_of_length_le (by omega), roomF]
            have hbf := HB2.out.trans (hbw.mono (Nat.le_of_lt HZ2.out))
            clear HC HQ
            go_wp2_with fail
            go_ret
            exact ⟨by rw [HC2.out]; rfl, hbf⟩
theorem Small_any (v : V) (c : VC) (w : World) (left depth : Int) (h0 : 0 ≤ left) (h1 : left ≤ 1000000) (hd0 : 0 ≤ depth) (hd1 : depth ≤ 1000) (hv : RdV w c v) :
    Calls Tryz.prog 12 #[aggV c, .int .i64 left, .int .i64 depth] w fun e w' => e = .returned (.bool (decide (0 ≤ roomV v left depth))) ∧ Below w.heap.size w w' := by
  obtain ⟨h, a1, a2, a3, n1, n2, n3, m1, m2, m3, rfl⟩ := hv.forms
  have HV := Lib.hid hv
  clear hv
  simp only [aggV]
  go_enter Tryz.func12, Tryz.ntmps12
  go_wp2_with fail
  refine (room_any _ v ⟨h, .slice a1 n1 m1, .slice a2 n2 m2, .slice a3 n3 m3⟩ _ left depth (Nat.le_refl _) h0 h1 hd0 hd1 (HV.out.stays ((Below.refl _ _).alloc (Nat.le_refl _) _))).mono ?_
  rintro e w1 ⟨rfl, hb⟩
  have hb2 : Below w.heap.size w w1 := ((Below.refl _ _).alloc (Nat.le_refl _) _).trans (hb.mono (by simp))
  go_wp2_with fail
  go_ret
  exact ⟨rfl, hb2⟩
end Go.Proofs.YthdninnjjmhpfaaGreatDoor
