/- regex.derive walked whole, regex.Derive walked. Conditions: a valid pattern has fewer than 10^6 nodes; what is handed back is no bigger than 10^9. -/
import Derived.Test.YtggolmamacoplaaDoorZz28
import Derived.Test.YtggolmamacoplaaDoorZz20
import Derived.Test.YtggolmamacoplaaDoorZz15
namespace Go.Proofs.YtggolmamacoplaaDoor
open Go.RowKit Go.Shelf
set_option maxHeartbeats 4000000
set_option maxRecDepth 100000

/-- append lays several more. -/
theorem OwnP.pushAll {N : Nat → Prop} {B : Nat} {w w' : World} {v v' : Value} {cs cr : List PC} {ps pr : List RX} (h : OwnP N B w v cs ps) (hl : cr.length = pr.length) (hc : ∀ i (h1 : i < cr.length) (h2 : i < pr.length), RdQ (fun g => N g ∧ some g ≠ v.ownBlock) w cr[i] pr[i])
    (hg : w.grownBy w' v.ownBlock) (hown : w'.ownsRow B 24 6 v' (cs.length + cr.length) (cs.flatMap PC.cells ++ cr.flatMap PC.cells)) (hat : v'.ownBlock = v.ownBlock ∨ ∃ k, w.heap.size ≤ k ∧ v'.ownBlock = some k) : OwnP N B w' v' (cs ++ cr) (ps ++ pr) := by
  have hst : ∀ (c : PC) (p : RX), RdQ (fun g => N g ∧ some g ≠ v.ownBlock) w c p → RdQ (fun g => N g ∧ some g ≠ v'.ownBlock) w' c p := by
    intro c p hq
    have h2 : RdQ (fun g => (N g ∧ some g ≠ v.ownBlock) ∧ g < w.heap.size) w c p := hq.mono (fun g h1 h2 => ⟨h1, h2⟩)
    refine (h2.keep (fun g h1 h3 => hg.block g h3 h1.1.2)).mono (fun g h1 _ => ⟨h1.1.1, ?_⟩)
    rcases hat with he | ⟨k, hk, he⟩
    · rw [he]
      exact h1.1.2
    · rw [he]
      intro h4
      cases h4
      have := h1.2
      omega
  refine ⟨?_, by rw [List.length_append, List.length_append, h.2.1, hl], fun i h1 h2 => ?_⟩
  · rw [List.length_append, List.flatMap_append]
    exact hown
  · by_cases hi : i < cs.length
    · have h3 : i < ps.length := by rw [← h.2.1]; exact hi
      rw [List.getElem_append_left hi, List.getElem_append_left h3]
      exact hst _ _ (h.2.2 i hi h3)
    · rw [List.getElem_append_right (by omega), List.getElem_append_right (by have := h.2.1; omega)]
      rw [List.length_append] at h1 h2
      have h5 : i - cs.length < cr.length := by omega
      have h6 : i - ps.length < pr.length := by have := h.2.1; omega
      have h7 : pr[i - ps.length] = pr[i - cs.length]'(by omega) := by congr 1; rw [h.2.1]
      rw [h7]
      exact hst _ _ (hc (i - cs.length) h5 (by omega))
theorem flat_get (cr : List PC) (n : Nat) (u : Value) (h : (cr.flatMap PC.cells)[n]? = some u) : ∃ (i : Nat) (hi : i < cr.length), n = i * 6 + n % 6 ∧ cr[i].cells[n % 6]? = some u := by
  have hl := flat_len cr
  have hn : n < cr.length * 6 := by
    rw [← hl]
    exact (List.getElem?_eq_some_iff.1 h).1
  refine ⟨n / 6, by omega, by omega, ?_⟩
  have := flat_at cr (n / 6) (by omega) (n % 6) (by omega)
  rw [show n / 6 * 6 + n % 6 = n by omega] at this
  rw [← this, h]
theorem step_appendL {ops : Array Oper} {o : Oper} {a : Act} {w : World} {K : Act → World → Prop} {Q : Exit → Act → World → Prop} {E : Prop} {N : Nat → Prop} {B : Nat} {v : Value} {cs cr : List PC} {ps pr : List RX} (hgd : o.guard = none) (s x : Operand)
    (ho : o.op = .call { callee := .builtin .append, args := #[s, x], argTypes := #[22, 22] })
    (hown : OwnP N B w v cs ps) (hl : cr.length = pr.length) (hc : ∀ i (h1 : i < cr.length) (h2 : i < pr.length), RdQ (fun g => N g ∧ some g ≠ v.ownBlock) w cr[i] pr[i]) (hs : a.eval s = v) (ad : Addr) (m cap : Nat) (hx : a.eval x = .slice (some ad) m cap) (hm : m = cr.length)
    (hcell : ∀ i (hi : i < cr.length) j, j < 6 → w.cell? (ad.add (i * 6 + j)) = cr[i].cells[j]?) (hn : cs.length + cr.length < 1000000000) (hbase : B ≤ w.heap.size)
    (h : ∀ v' w', OwnP N B w' v' (cs ++ cr) (ps ++ pr) → w.grownBy w' v.ownBlock → (v'.ownBlock = v.ownBlock ∨ v'.ownBlock = some w.heap.size) → K (a.put o.dst v') w') :
    if Region.wanted o (yielded ops a.tmps) = true then o.wp Tryd.prog a w K Q else E := by
  have hw : Region.wanted o (yielded ops a.tmps) = true := by simp [Region.wanted, hgd]
  rw [if_pos hw]
  subst hm
  obtain ⟨ht, hsz, i, z, hi, hz, hsi, hby, hzs⟩ := elemP
  refine wp_append_at s x _ ho B _ i z 6 i.bytes ht hi hz hsi rfl hzs hsz v cs.length _ hs hown.1 ad cr.length cap (cr.flatMap PC.cells) hx (flat_len cr) ?_ ?_ (by simp only [maxLen]; omega) (Nat.le_trans (Nat.mul_le_mul (show cs.length + cr.length ≤ 1000000000 by omega) hby) (by decide)) hbase ?_
  · intro j u hu
    obtain ⟨i', hi', e1, e2⟩ := flat_get cr j u hu
    rw [e1, hcell i' hi' (j % 6) (by omega)]
    exact e2
  · intro u hu
    obtain ⟨c, hcm, hu⟩ := List.mem_flatMap.1 hu
    obtain ⟨i', hi', rfl⟩ := List.getElem_of_mem hcm
    obtain ⟨A, pc, hca⟩ := (hc i' hi' (by omega)).rd.forms
    unfold PC.cells at hu
    rw [hca] at hu
    simp only [List.mem_cons, List.not_mem_nil, or_false] at hu
    rcases hu with rfl | rfl | rfl | rfl | rfl | rfl <;> rfl
  · intro v' w' hown' hg hat
    exact h v' w' (hown.pushAll hl hc hg hown' (by rcases hat with h | h; exact .inl h; exact .inr ⟨_, Nat.le_refl _, h⟩)) hg hat
/-- The parts of an argument behind the k-th. -/
theorem RdL.rest {N : Nat → Prop} {w w' : World} {l : List RX} {g o n cap : Nat} (h : RdL N w (.slice (some ⟨g, o, none⟩) n cap) l) (hb : Below w.heap.size w w') (k : Nat) (hk : k < l.length) :
    ∃ cr : List PC, cr.length = (l.drop (k + 1)).length ∧ (∀ i (h1 : i < cr.length) (h2 : i < (l.drop (k + 1)).length), RdQ (fun g => N g ∧ g < w.heap.size) w' cr[i] (l.drop (k + 1))[i]) ∧ ∀ i (hi : i < cr.length) j, j < 6 → w'.cell? ⟨g, o + (k + 1) * 6 + (i * 6 + j), none⟩ = cr[i].cells[j]? := by
  cases h with
  | mk _ _ _ _ _ _ _ cs hl hN hL =>
  obtain ⟨a', cap', he, h1, h2, h0, h3⟩ := hl
  cases he
  obtain ⟨g', o', e, hg, hc⟩ := h3 (by omega)
  cases e
  refine ⟨(List.range (l.drop (k + 1)).length).map (fun i => cs (k + 1 + i)), by simp, fun i h1 h2 => ?_, fun i hi j hj => ?_⟩
  · have hi : k + 1 + i < l.length := by rw [List.length_drop] at h2; omega
    have e1 : (l.drop (k + 1))[i] = l[k + 1 + i] := by simp
    rw [e1]
    simp only [List.getElem_map, List.getElem_range]
    exact ((hL (k + 1 + i) hi).mono (fun g h1 h2 => ⟨h1, h2⟩)).stay hb
  · simp only [List.length_map, List.length_range, List.length_drop] at hi
    simp only [List.getElem_map, List.getElem_range]
    rw [← hc (k + 1 + i) (by omega) j hj]
    have := hb.cell (p := ⟨g, o + (k + 1 + i) * 6 + j, none⟩) hg
    rw [← this]
    congr 2
    omega
theorem der_op3 (b : Int) (d : Nat) (IH : DerC b d) (N : Nat → Prop) (lo hi mn mx : Int) (l : List RX) (c : PC) (w : World) (hp : RdQ N w c (.mk 3 lo hi mn mx l)) (hsn : sndR (d + 1) (.mk 3 lo hi mn mx l) = true) (hcn : cntN (d + 1) (.mk 3 lo hi mn mx l) ≤ 1000000) :
    Calls Tryd.prog 38 #[aggP c, .int .i64 b] w (RetP N (derR b (d + 1) (.mk 3 lo hi mn mx l)) w) := by
  have HSN := Lib.hid hsn
  have HCN := Lib.hid hcn
  have HP := Lib.hid hp
  have HLN := Lib.hid (cnt_len hsn hcn)
  obtain ⟨la, lcap, hla⟩ := hp.rd.forms
  have hop : c.op = 3 ∧ c.lo = lo ∧ c.hi = hi ∧ c.mn = mn ∧ c.mx = mx := by cases hp; exact ⟨rfl, rfl, rfl, rfl, rfl⟩
  obtain ⟨c0, c1, c2, c3, c4, c5⟩ := c
  simp only at hop hla
  obtain ⟨rfl, rfl, rfl, rfl, rfl⟩ := hop
  rw [show (RX.mk 3 c1 c2 c3 c4 l).args = l from rfl] at hla
  subst hla
  have hll : (l.length : Int) ≤ 1000000 := by have := HLN.out; omega
  simp only [aggP]
  clear hp hsn hcn
  go_enter Tryd.func38, Tryd.ntmps38
  go_upto_region 1 with fail
  generalize hW : World.alloc w _ = w1
  obtain ⟨ha, -, hz1, hb1⟩ := alloc_of hW
  generalize hW2 : World.alloc w1 _ = w2
  obtain ⟨ha2, -, hz2, hb2⟩ := alloc_of hW2
  rw [hz1] at ha2
  have HD := Lib.hid (show DerS ⟨3, c1, c2, c3, c4, .slice la l.length lcap⟩ w w2 from ⟨(hb2.block _ (by omega)).trans ha, ha2, hb1.trans (hb2.mono hb1.size)⟩)
  clear hW ha hz1 hb1 hW2 ha2 hz2 hb2
  obtain ⟨t0, t1, t2, t3, t4, t5⟩ := HD.out.box.cells
  simp only at t0 t1 t2 t3 t4 t5
  have HQ0 := Lib.hid (show derR b (d + 1) (.mk 3 c1 c2 c3 c4 l) = altD (waysD (fun a => matR a []) (derR b d) l) from by simp [derR])
  have HIH := Lib.hid IH
  have HKS := Lib.hid (snd_node HSN.out).2
  clear IH
  go_wp2_with fail
  go_loopw [5, 6, 7, 32] (fun ov _ _ iv wr => ∃ (k : Nat) (A : Option Addr) (n cap : Nat) (cs : List PC) (acc : List RX), k ≤ l.length ∧ iv = .int .i64 (k : Int) ∧ ov = .slice A n cap ∧ Hid (n = cs.length ∧ cs.length = acc.length ∧ acc.length = k) ∧ Hid (DerS ⟨3, c1, c2, c3, c4, .slice la l.length lcap⟩ w wr) ∧ Hid (OwnP (fun g => (N g ∧ g < w.heap.size) ∨ w.heap.size + 2 ≤ g) (w.heap.size + 2) wr (.slice A n cap) cs acc) ∧ Hid (waysD (fun a => matR a []) (derR b d) l = acc ++ waysD (fun a => matR a []) (derR b d) (l.drop k))) (fun _ _ _ iv _ => l.length - (intOf iv).toNat)
  case atStart => exact ⟨0, none, 0, 0, [], [], Nat.zero_le _, rfl, rfl, ⟨rfl, rfl, rfl⟩, HD.out, OwnP.nil _ _ _, by unfold Hid; simp⟩
  case round =>
    clear HD t0 t1 t2 t3 t4 t5
    obtain ⟨k, A, n, cap, cs, acc, hk, rfl, rfl, HC, HD, HW, HWS⟩ := hrel
    obtain ⟨t0, t1, t2, t3, t4, t5⟩ := HD.out.box.cells
    simp only at t0 t1 t2 t3 t4 t5
    by_cases hlt : k < l.length
    case neg =>
      have hge : ¬ (k : Int) < l.length := by omega
      have HQ : Hid (derR b (d + 1) (.mk 3 c1 c2 c3 c4 l) = altD acc) := by
        unfold Hid
        rw [HQ0.out, HWS.out, List.drop_of_length_le (by omega), waysD, List.append_nil]
      have HDX := HD
      have HF : Hid (RdL (fun g => (N g ∧ g < w.heap.size) ∨ w.heap.size + 2 ≤ g) wr (.slice A n cap) (acc)) := HW.out.node2 (fun x hx => .inr (HW.out.1.lt x hx).1) 0 0 0 0 0
      have HC2 := Lib.hid (alt_any _ _ _ wr HF.out (by have := HLN.out; have := HC.out; omega))
      have HZ2 : Hid (w.heap.size + 2 ≤ wr.heap.size) := HDX.out.ret.lt
      clear hlt
      go_wp2_with fail
      refine HC2.out.mono ?_
      rintro e w8 ⟨c8, rfl, hq8, hb8⟩
      have HD8 := Lib.hid (HDX.out.stay hb8)
      have HQ8 := Lib.hid (hq8.mono (M := fun g => (N g ∧ g < w.heap.size) ∨ w.heap.size + 2 ≤ g) (fun g hg _ => by have := HZ2.out; rcases hg with hg | hg; exact hg; exact .inr (by omega)))
      obtain ⟨fa, fcap, hfa⟩ := hq8.rd.forms
      obtain ⟨q0, q1, q2, q3, q4, q5⟩ := c8
      simp only at hfa
      subst hfa
      simp only [aggP]
      clear hq8 hb8
      obtain ⟨z0, z1, z2, z3, z4, z5⟩ := HD8.out.ret.cells
      obtain ⟨y0, y1, y2, y3, y4, y5⟩ := HD8.out.ret.free
      simp only at z0 z1 z2 z3 z4 z5
      go_wp2_with fail
      generalize hW : World.setCell _ _ _ = w9
      obtain ⟨hbx, hok⟩ := RetP.fin2 (N := N) HD8.out.ret HD8.out.bel HQ8.out hW
      obtain ⟨s0, s1, s2, s3, s4, s5⟩ := hbx.cells
      refine bodyPost_ret (v := aggP ⟨q0, q1, q2, q3, q4, .slice fa _ fcap⟩) (by simp only at s0 s1 s2 s3 s4 s5; simp [results, Tryd.results38, go_sem, s0, s1, s2, s3, s4, s5]; try rfl) rfl ?_
      rw [HQ.out]
      exact hok
    case pos =>
      have hlti : (k : Int) < l.length := by omega
      obtain ⟨g, o, c, rfl, hc6, hrq⟩ := RdL.part HP.out.list HD.out.bel k hlt
      have HDR : Hid (l.drop k = l[k] :: l.drop (k + 1)) := List.drop_eq_getElem_cons hlt
      have HRD := Lib.hid hrq
      have HSQ := Lib.hid (HKS.out _ (List.getElem_mem hlt))
      have HCQ := Lib.hid (cnt_part HCN.out (List.getElem_mem hlt))
      generalize l[k] = q at *
      obtain ⟨pa, pcap, hpa⟩ := HRD.out.rd.forms
      generalize q.args.length = pn at *
      obtain ⟨p0, p1, p2, p3, p4, p5⟩ := c
      simp only at hpa
      subst hpa
      obtain ⟨b0, b1, b2, b3, b4, b5⟩ := cells6 hc6
      simp only at b0 b1 b2 b3 b4 b5
      clear hc6 hrq
      go_upto_region 10 with fail
      generalize hW : World.alloc wr _ = w5
      obtain ⟨ha, -, -, hb5⟩ := alloc_of hW
      have HB5 := Lib.hid (show BoxP wr.heap.size ⟨p0, p1, p2, p3, p4, .slice pa pn pcap⟩ w5 from ha)
      have HD5 := Lib.hid (HD.out.stay hb5)
      have HW5 := Lib.hid (HW.out.keep2 (w' := w5) (fun x _ hx => hb5.block x hx))
      have HZ5 : Hid (w.heap.size + 2 ≤ w5.heap.size) := HD5.out.ret.lt
      have HOWR : Hid (∀ x, (Value.slice A n cap).ownBlock = some x → x < wr.heap.size) := fun x hx => (HW.out.1.lt x hx).2
      replace HRD := Lib.hid (HRD.out.stay hb5)
      clear hW ha hb5 b0 b1 b2 b3 b4 b5 HD HW t0 t1 t2 t3 t4 t5
      have hwr : IntKind.i64.wrap ((k : Int) + 1) = (k : Int) + 1 := IntWalk.i64_in _ (by omega)
      have q0 : (0 : Int) ≤ (k : Int) + 1 := by omega
      have q1 : ((k : Int) + 1).toNat = k + 1 := by omega
      have q2 : (k : Int) + 1 ≤ l.length := by omega
      have HOWB : Hid (∀ x, (Value.slice A n cap).ownBlock = some x → w.heap.size + 2 ≤ x) := fun x hx => (HW5.out.1.lt x hx).1
      have hlc : l.length ≤ lcap ∧ lcap ≤ maxLen := by
        obtain ⟨_, _, he, h1, h2⟩ := HP.out.list.form
        cases he
        exact ⟨h1, h2⟩
      obtain ⟨hlc1, hlc2⟩ := hlc
      have q3 : (l.length : Int) ≤ (lcap : Int) := by omega
      have q4 : (lcap : Int) ≤ 9223372036854775807 := by simp only [maxLen] at hlc2; omega
      have q5 : (k : Int) + 1 ≤ lcap := by omega
      have hbd : Below w5.heap.size w5 w5.drew := below_drewN (Below.refl _ _) 1
      replace HB5 := Lib.hid (HB5.out.below hbd)
      replace HD5 := Lib.hid (HD5.out.stay hbd)
      replace HW5 := Lib.hid (HW5.out.keep2 (w' := w5.drew) (fun x _ _ => rfl))
      replace HRD := Lib.hid (HRD.out.stay hbd)
      replace HZ5 : Hid (w.heap.size + 2 ≤ w5.drew.heap.size) := HZ5.out
      clear hbd hlc2
      by_cases hcap : k + 1 = lcap
      · subst hcap
        refine wpq_region (fun w' => BoxP wr.heap.size ⟨p0, p1, p2, p3, p4, .slice pa pn pcap⟩ w' ∧ BoxP w.heap.size ⟨3, c1, c2, c3, c4, .slice (some ⟨g, o, none⟩) l.length (k + 1)⟩ w') 14 (by kernel_rfl) ⟨HB5.out, HD5.out.box⟩ (fun hHeld => ?_)
        generalize w5.drew = wd at *
        refine wpq_take 0 (some 37) [13, 14] rfl rfl (by kernel_rfl) (by kernel_rfl) (by kernel_rfl) (by kernel_rfl) (fun _ _ _ h => h) (Or.inl ⟨by rfl, fun w hSw => by (obtain ⟨x0, x1, x2, x3, x4, x5⟩ := BoxP.cells hSw.1; obtain ⟨y0, y1, y2, y3, y4, y5⟩ := BoxP.cells hSw.2; go_simp; with_reducible rfl)⟩) hHeld ?_
        simp only [Act.put, List.setIfInBounds_toArray, List.set_cons_zero, List.set_cons_succ]
        refine wpq_take 1 (some 38) [3, 4, 10, 11, 12, 13, 14] rfl rfl (by kernel_rfl) (by kernel_rfl) (by kernel_rfl) (by kernel_rfl) (fun _ _ _ h => h) (Or.inl ⟨by rfl, fun w hSw => by (obtain ⟨x0, x1, x2, x3, x4, x5⟩ := BoxP.cells hSw.1; obtain ⟨y0, y1, y2, y3, y4, y5⟩ := BoxP.cells hSw.2; go_simp; with_reducible rfl)⟩) hHeld ?_
        simp only [Act.put, List.setIfInBounds_toArray, List.set_cons_zero, List.set_cons_succ]
        refine wpq_take 2 (some 39) [3, 4, 10, 11, 12, 13, 14] rfl rfl (by kernel_rfl) (by kernel_rfl) (by kernel_rfl) (by kernel_rfl) (fun _ _ _ h => h) (Or.inl ⟨by rfl, fun w hSw => by (obtain ⟨x0, x1, x2, x3, x4, x5⟩ := BoxP.cells hSw.1; obtain ⟨y0, y1, y2, y3, y4, y5⟩ := BoxP.cells hSw.2; go_simp; with_reducible rfl)⟩) hHeld ?_
        simp only [Act.put, List.setIfInBounds_toArray, List.set_cons_zero, List.set_cons_succ]
        refine wpq_take 5 (some 42) [6, 9, 10, 11, 12, 13, 14] rfl rfl (by kernel_rfl) (by kernel_rfl) (by kernel_rfl) (by kernel_rfl) (fun _ _ _ h => h) (Or.inl ⟨by rfl, fun w hSw => by (obtain ⟨x0, x1, x2, x3, x4, x5⟩ := BoxP.cells hSw.1; obtain ⟨y0, y1, y2, y3, y4, y5⟩ := BoxP.cells hSw.2; go_simp; with_reducible rfl)⟩) hHeld ?_
        simp only [Act.put, List.setIfInBounds_toArray, List.set_cons_zero, List.set_cons_succ]
        refine wpq_take 6 (some 43) [9, 10, 11, 12, 13, 14] rfl rfl (by kernel_rfl) (by kernel_rfl) (by kernel_rfl) (by kernel_rfl) (fun _ _ _ h => h) (Or.inl ⟨by rfl, fun w hSw => by (obtain ⟨x0, x1, x2, x3, x4, x5⟩ := BoxP.cells hSw.1; obtain ⟨y0, y1, y2, y3, y4, y5⟩ := BoxP.cells hSw.2; go_simp; with_reducible rfl)⟩) hHeld ?_
        simp only [Act.put, List.setIfInBounds_toArray, List.set_cons_zero, List.set_cons_succ]
        refine wpq_take 7 (some 44) [8, 9, 10, 11, 12, 13, 14] rfl rfl (by kernel_rfl) (by kernel_rfl) (by kernel_rfl) (by kernel_rfl) (fun _ _ _ h => h) (Or.inl ⟨by rfl, fun w hSw => by (obtain ⟨x0, x1, x2, x3, x4, x5⟩ := BoxP.cells hSw.1; obtain ⟨y0, y1, y2, y3, y4, y5⟩ := BoxP.cells hSw.2; go_simp; with_reducible rfl)⟩) hHeld ?_
        simp only [Act.put, List.setIfInBounds_toArray, List.set_cons_zero, List.set_cons_succ]
        refine wpq_take 8 (some 45) [9, 10, 11, 12, 13, 14] rfl rfl (by kernel_rfl) (by kernel_rfl) (by kernel_rfl) (by kernel_rfl) (fun _ _ _ h => h) (Or.inl ⟨by rfl, fun w hSw => by (obtain ⟨x0, x1, x2, x3, x4, x5⟩ := BoxP.cells hSw.1; obtain ⟨y0, y1, y2, y3, y4, y5⟩ := BoxP.cells hSw.2; go_simp; with_reducible rfl)⟩) hHeld ?_
        simp only [Act.put, List.setIfInBounds_toArray, List.set_cons_zero, List.set_cons_succ]
        refine wpq_take 9 (some 46) [10, 11, 12, 13, 14] rfl rfl (by kernel_rfl) (by kernel_rfl) (by kernel_rfl) (by kernel_rfl) (fun _ _ _ h => h) (Or.inl ⟨by rfl, fun w hSw => by (obtain ⟨x0, x1, x2, x3, x4, x5⟩ := BoxP.cells hSw.1; obtain ⟨y0, y1, y2, y3, y4, y5⟩ := BoxP.cells hSw.2; go_simp; with_reducible rfl)⟩) hHeld ?_
        simp only [Act.put, List.setIfInBounds_toArray, List.set_cons_zero, List.set_cons_succ]
        refine wpq_one 3 (by kernel_rfl) rfl (fun K hK => ?_)
        go_simp
        refine (HIH.out _ q ⟨p0, p1, p2, p3, p4, .slice pa pn pcap⟩ wd HRD.out HSQ.out HCQ.out).mono ?_
        rintro e w6 ⟨c6, rfl, hq6, hb6⟩
        have HB6 := Lib.hid (HB5.out.below hb6)
        have HD6 := Lib.hid (HD5.out.stay hb6)
        have HW6 := Lib.hid (HW5.out.keep2 (w' := w6) (fun x _ hx => hb6.block x hx))
        have HR6 := Lib.hid (HRD.out.stay hb6)
        have HQ6 := Lib.hid (hq6.mono (M := fun g => (((N g ∧ g < w.heap.size) ∨ w.heap.size + 2 ≤ g) ∧ some g ≠ (Value.slice A n cap).ownBlock) ∧ g ≠ w6.heap.size) (fun g hg hl => by
          have hz5 := HZ5.out
          refine ⟨⟨?_, fun he => ?_⟩, by omega⟩
          · rcases hg with hg | hg
            · exact .inl hg
            · exact .inr (by omega)
          · have h1 := HW5.out.1.lt g he.symm
            rcases hg with hg | hg <;> omega))
        have HZ6 : Hid (w.heap.size + 2 ≤ w6.heap.size ∧ ∀ x, (Value.slice A n cap).ownBlock = some x → x < wr.heap.size ∧ x < w6.heap.size) := ⟨HD6.out.ret.lt, fun x hx => ⟨HOWR.out x hx, (HW6.out.1.lt x hx).2⟩⟩
        generalize hdq : derR b d q = dq at *
        clear hq6 hHeld HB5 HD5 HW5 HRD
        refine hK.out _ _ ⟨HB6.out, HD6.out.box⟩ (fun hHeld => ?_)
        clear hK K
        refine wpq_one 4 (by kernel_rfl) rfl (fun K hK => ?_)
        go_simp
        generalize hW : World.alloc w6 _ = w7
        obtain ⟨ha, -, hz7, hb7⟩ := alloc_of hW
        have HOne := Lib.hid (OwnP.one (N := fun g => ((N g ∧ g < w.heap.size) ∨ w.heap.size + 2 ≤ g) ∧ some g ≠ (Value.slice A n cap).ownBlock) (show BoxP w6.heap.size c6 w7 from ha) (HQ6.out.stay hb7))
        have HBW7 := Lib.hid (HD6.out.bel.trans (hb7.mono HD6.out.bel.size))
        clear hHeld
        refine hK.out _ _ ⟨HB6.out.below hb7, HD6.out.box.below hb7⟩ (fun hHeld => ?_)
        clear hK K hHeld
        obtain ⟨cr, r1, r2, r3⟩ := HP.out.list.rest HBW7.out k hlt
        refine wpq_one 10 (by kernel_rfl) rfl (fun K hK => ?_)
        refine step_appendL (N := fun g => ((N g ∧ g < w.heap.size) ∨ w.heap.size + 2 ≤ g) ∧ some g ≠ (Value.slice A n cap).ownBlock) (B := 0) (v := .slice (some ⟨w6.heap.size, 0, none⟩) 1 1) (cs := [c6]) (cr := cr) (ps := [dq]) (pr := l.drop (k + 1)) rfl _ _ rfl HOne.out r1 (fun i h1 h2 => (r2 i h1 h2).mono (fun g hg _ => ⟨⟨.inl hg, fun he => by have := HOWB.out g he.symm; omega⟩, fun he => by have := own_one he.symm; have := HZ6.out.1; omega⟩)) rfl ⟨g, o, none⟩ _ _ rfl ?hm ?hcell ?hn (Nat.zero_le _) ?_
        case hm =>
          rw [r1, List.length_drop]
          omega
        case hcell =>
          intro i hi
          rw [r1, List.length_drop] at hi
          omega
        case hn =>
          rw [r1, List.length_drop]
          have := HLN.out
          simp only [List.length_cons, List.length_nil]
          omega
        intro v8 w8 hown8 hg8 hat8
        have hb78 : Below w6.heap.size w7 w8 := ⟨hg8.os, hg8.tape, hg8.output, hg8.size, fun x hx => hg8.block x (by omega) (fun he => by have := own_one he.symm; omega)⟩
        have hb68 := hb7.trans hb78
        have HL8 := Lib.hid (show RdL (fun g => ((N g ∧ g < w.heap.size) ∨ w.heap.size + 2 ≤ g) ∧ some g ≠ (Value.slice A n cap).ownBlock) w8 v8 (dq :: l.drop (k + 1)) from hown8.node2 (fun x hx => by
          have hz6 := HZ6.out.1
          have hx6 : w6.heap.size ≤ x := by
            rcases hat8 with h | h
            · rw [h] at hx
              have := own_one hx
              omega
            · rw [h] at hx
              cases hx
              omega
          exact ⟨.inr (by omega), fun he => by have := (HZ6.out.2 x he.symm).2; omega⟩) 0 0 0 0 0)
        have HB8 := Lib.hid (HB6.out.below hb68)
        have HD8 := Lib.hid (HD6.out.stay hb68)
        have HW8 := Lib.hid (HW6.out.keep2 (w' := w8) (fun x _ hx => hb68.block x hx))
        have HR8 := Lib.hid (HR6.out.stay hb68)
        clear r1 r2 r3 hown8 hg8 hat8 hb78 hb68 hW ha hb7 hz7 HOne HBW7 HB6 HD6 HW6 HR6 HQ6
        refine hK.out _ _ ⟨HB8.out, HD8.out.box⟩ (fun hHeld => ?_)
        clear hK K hHeld
        refine wpq_one 11 (by kernel_rfl) rfl (fun K hK => ?_)
        go_simp
        refine (cat_any _ (dq :: l.drop (k + 1)) v8 w8 HL8.out (by have := HLN.out; rw [List.length_cons, List.length_drop]; omega)).mono ?_
        rintro e w9 ⟨c9, rfl, hq9, hb9⟩
        have HB9 := Lib.hid (HB8.out.below hb9)
        have HD9 := Lib.hid (HD8.out.stay hb9)
        have HW9 := Lib.hid (HW8.out.keep2 (w' := w9) (fun x _ hx => hb9.block x hx))
        have HR9 := Lib.hid (HR8.out.stay hb9)
        have HZ8 : Hid (w.heap.size + 2 ≤ w8.heap.size) := HD8.out.ret.lt
        have HQ9 := Lib.hid (hq9.mono (M := fun g => ((N g ∧ g < w.heap.size) ∨ w.heap.size + 2 ≤ g) ∧ some g ≠ (Value.slice A n cap).ownBlock) (fun g hg hl => by
          have hz8 := HZ8.out
          rcases hg with hg | hg
          · exact hg
          · exact ⟨.inr (by omega), fun he => by have := (HW8.out.1.lt g he.symm).2; omega⟩))
        generalize hcd : catD (dq :: l.drop (k + 1)) [] = cd at *
        clear hq9 HB8 HD8 HW8 HR8 HL8
        refine hK.out _ _ ⟨HB9.out, HD9.out.box⟩ (fun hHeld => ?_)
        clear hK K hHeld hb9
        refine wpq_one 12 (by kernel_rfl) rfl (fun K hK => ?_)
        go_simp
        have hb10 : Below w9.heap.size w9 (w9.alloc (.cells c9.cells.toArray 24)) := (Below.refl _ _).alloc (Nat.le_refl _) _
        refine hK.out _ _ ⟨HB9.out.below hb10, HD9.out.box.below hb10⟩ (fun hHeld => ?_)
        clear hK K hHeld hb10
        refine wpq_one 13 (by kernel_rfl) rfl (fun K hK => ?_)
        refine step_pushP (N := fun g => (N g ∧ g < w.heap.size) ∨ w.heap.size + 2 ≤ g) (B := w.heap.size + 2) (c := c9) (p := cd) (v := .slice A n cap) (cs := cs) (ps := acc) rfl _ _ rfl HW9.out HQ9.out rfl rfl rfl ?hn2 ?hb2 ?_
        case hn2 =>
          have := HC.out
          have := HLN.out
          omega
        case hb2 => exact HD9.out.ret.lt
        rintro v' w11 hown hg ⟨A11, cap11, rfl⟩ hat
        have hlo : ∀ x, x < w.heap.size + 2 → x < w9.heap.size → w11.heap[x]? = w9.heap[x]? := fun x h1 h2 => hg.block x h2 (fun he => by have := HOWB.out x he.symm; omega)
        have hb11 : Below (w.heap.size + 2) w9 w11 := ⟨hg.os, hg.tape, hg.output, hg.size, fun x hx => hlo x hx (by have := HD9.out.ret.lt; omega)⟩
        have HB11 := Lib.hid (show BoxP wr.heap.size ⟨p0, p1, p2, p3, p4, .slice pa pn pcap⟩ w11 from (hg.block _ HB9.out.lt (fun he => by have := HOWR.out _ he.symm; omega)).trans HB9.out)
        have HD11 := Lib.hid (show DerS ⟨3, c1, c2, c3, c4, .slice (some ⟨g, o, none⟩) l.length (k + 1)⟩ w w11 from ⟨(hlo _ (by omega) HD9.out.box.lt).trans HD9.out.box, (hlo _ (by omega) HD9.out.ret.lt).trans HD9.out.ret, HD9.out.bel.trans (hb11.mono (by omega))⟩)
        have HOW := Lib.hid hown
        have HR11 := Lib.hid ((HR9.out.mono (M := fun g => (N g ∧ g < w.heap.size)) (fun g h _ => h)).keep (w' := w11) (fun x hx hl => hlo x (by omega) hl))
        clear hown hlo hb11 hg hat HB9 HD9 HW9 HR9 HQ9
        refine hK.out _ _ ⟨HB11.out, HD11.out.box⟩ (fun hHeld => ?_)
        clear hK K hHeld
        refine wpq_end 14 (by kernel_rfl) rfl (by kernel_rfl) (fun K hK => ?_)
        go_simp
        refine hK.out _ _ ?_
        clear hK K
        refine wpq_done (by kernel_rfl) ?_ _
        go_simp
        have HCAT : Hid (cd = catD (derR b d q :: l.drop (k + 1)) []) := by unfold Hid; rw [hdq, hcd]
        have HWN : Hid (waysD (fun a => matR a []) (derR b d) l = (acc ++ [cd]) ++ (if matR q [] then waysD (fun a => matR a []) (derR b d) (l.drop (k + 1)) else [])) := by
          unfold Hid
          rw [HWS.out, HDR.out, waysD, HCAT.out]
          simp
        clear hdq hcd HCAT
        have HNU := Lib.hid (Nullable_any q ⟨p0, p1, p2, p3, p4, .slice pa pn pcap⟩ w11 HR11.out.rd)
        obtain ⟨b0, b1, b2, b3, b4, b5⟩ := HB11.out.cells
        simp only at b0 b1 b2 b3 b4 b5
        go_wp2_with fail
        refine HNU.out.mono ?_
        rintro e w12 ⟨rfl, hb12⟩
        have HD12 := Lib.hid (HD11.out.stay hb12)
        have HW12 := Lib.hid (HOW.out.keep2 (w' := w12) (fun x _ hx => hb12.block x hx))
        clear hb12 HNU HB11 HD11 HOW HR11 b0 b1 b2 b3 b4 b5
        cases hnu : matR q [] with
        | true =>
          rw [hnu, if_pos rfl] at HWN
          clear hnu
          go_wp2_with fail
          exact ⟨⟨k + 1, A11, _, cap11, cs ++ [c9], acc ++ [cd], by omega, rfl, rfl, ⟨by simp, by have := HC.out; simp; omega, by have := HC.out; simp; omega⟩, HD12.out, HW12.out, HWN.out⟩, by simp [intOf]; omega⟩
        | false =>
          rw [hnu, if_neg (by simp), List.append_nil] at HWN
          clear hnu
          have HQ : Hid (derR b (d + 1) (.mk 3 c1 c2 c3 c4 l) = altD (acc ++ [cd])) := by
            unfold Hid
            rw [HQ0.out, HWN.out]
          have HDX := HD12
          have HF : Hid (RdL (fun g => (N g ∧ g < w.heap.size) ∨ w.heap.size + 2 ≤ g) w12 (.slice A11 (cs.length + 1) cap11) (acc ++ [cd])) := HW12.out.node2 (fun x hx => .inr (HW12.out.1.lt x hx).1) 0 0 0 0 0
          have HC2 := Lib.hid (alt_any _ _ _ w12 HF.out (by have := HLN.out; have := HC.out; rw [List.length_append, List.length_cons, List.length_nil]; omega))
          have HZ2 : Hid (w.heap.size + 2 ≤ w12.heap.size) := HDX.out.ret.lt
          go_wp2_with fail
          refine HC2.out.mono ?_
          rintro e w8 ⟨c8, rfl, hq8, hb8⟩
          have HD8 := Lib.hid (HDX.out.stay hb8)
          have HQ8 := Lib.hid (hq8.mono (M := fun g => (N g ∧ g < w.heap.size) ∨ w.heap.size + 2 ≤ g) (fun g hg _ => by have := HZ2.out; rcases hg with hg | hg; exact hg; exact .inr (by omega)))
          obtain ⟨fa, fcap, hfa⟩ := hq8.rd.forms
          obtain ⟨q0, q1, q2, q3, q4, q5⟩ := c8
          simp only at hfa
          subst hfa
          simp only [aggP]
          clear hq8 hb8
          obtain ⟨z0, z1, z2, z3, z4, z5⟩ := HD8.out.ret.cells
          obtain ⟨y0, y1, y2, y3, y4, y5⟩ := HD8.out.ret.free
          simp only at z0 z1 z2 z3 z4 z5
          go_wp2_with fail
          generalize hW : World.setCell _ _ _ = w9
          obtain ⟨hbx, hok⟩ := RetP.fin2 (N := N) HD8.out.ret HD8.out.bel HQ8.out hW
          obtain ⟨s0, s1, s2, s3, s4, s5⟩ := hbx.cells
          refine bodyPost_ret (v := aggP ⟨q0, q1, q2, q3, q4, .slice fa _ fcap⟩) (by simp only at s0 s1 s2 s3 s4 s5; simp [results, Tryd.results38, go_sem, s0, s1, s2, s3, s4, s5]; try rfl) rfl ?_
          rw [HQ.out]
          exact hok
      · have q6 : (k : Int) + 1 < lcap := by omega
        refine wpq_region (fun w' => BoxP wr.heap.size ⟨p0, p1, p2, p3, p4, .slice pa pn pcap⟩ w' ∧ BoxP w.heap.size ⟨3, c1, c2, c3, c4, .slice (some ⟨g, o, none⟩) l.length lcap⟩ w') 14 (by kernel_rfl) ⟨HB5.out, HD5.out.box⟩ (fun hHeld => ?_)
        generalize w5.drew = wd at *
        refine wpq_take 0 (some 37) [13, 14] rfl rfl (by kernel_rfl) (by kernel_rfl) (by kernel_rfl) (by kernel_rfl) (fun _ _ _ h => h) (Or.inl ⟨by rfl, fun w hSw => by (obtain ⟨x0, x1, x2, x3, x4, x5⟩ := BoxP.cells hSw.1; obtain ⟨y0, y1, y2, y3, y4, y5⟩ := BoxP.cells hSw.2; go_simp; with_reducible rfl)⟩) hHeld ?_
        simp only [Act.put, List.setIfInBounds_toArray, List.set_cons_zero, List.set_cons_succ]
        refine wpq_take 1 (some 38) [3, 4, 10, 11, 12, 13, 14] rfl rfl (by kernel_rfl) (by kernel_rfl) (by kernel_rfl) (by kernel_rfl) (fun _ _ _ h => h) (Or.inl ⟨by rfl, fun w hSw => by (obtain ⟨x0, x1, x2, x3, x4, x5⟩ := BoxP.cells hSw.1; obtain ⟨y0, y1, y2, y3, y4, y5⟩ := BoxP.cells hSw.2; go_simp; with_reducible rfl)⟩) hHeld ?_
        simp only [Act.put, List.setIfInBounds_toArray, List.set_cons_zero, List.set_cons_succ]
        refine wpq_take 2 (some 39) [3, 4, 10, 11, 12, 13, 14] rfl rfl (by kernel_rfl) (by kernel_rfl) (by kernel_rfl) (by kernel_rfl) (fun _ _ _ h => h) (Or.inl ⟨by rfl, fun w hSw => by (obtain ⟨x0, x1, x2, x3, x4, x5⟩ := BoxP.cells hSw.1; obtain ⟨y0, y1, y2, y3, y4, y5⟩ := BoxP.cells hSw.2; go_simp; with_reducible rfl)⟩) hHeld ?_
        simp only [Act.put, List.setIfInBounds_toArray, List.set_cons_zero, List.set_cons_succ]
        refine wpq_take 5 (some 42) [6, 9, 10, 11, 12, 13, 14] rfl rfl (by kernel_rfl) (by kernel_rfl) (by kernel_rfl) (by kernel_rfl) (fun _ _ _ h => h) (Or.inl ⟨by rfl, fun w hSw => by (obtain ⟨x0, x1, x2, x3, x4, x5⟩ := BoxP.cells hSw.1; obtain ⟨y0, y1, y2, y3, y4, y5⟩ := BoxP.cells hSw.2; go_simp; with_reducible rfl)⟩) hHeld ?_
        simp only [Act.put, List.setIfInBounds_toArray, List.set_cons_zero, List.set_cons_succ]
        refine wpq_take 6 (some 43) [9, 10, 11, 12, 13, 14] rfl rfl (by kernel_rfl) (by kernel_rfl) (by kernel_rfl) (by kernel_rfl) (fun _ _ _ h => h) (Or.inl ⟨by rfl, fun w hSw => by (obtain ⟨x0, x1, x2, x3, x4, x5⟩ := BoxP.cells hSw.1; obtain ⟨y0, y1, y2, y3, y4, y5⟩ := BoxP.cells hSw.2; go_simp; with_reducible rfl)⟩) hHeld ?_
        simp only [Act.put, List.setIfInBounds_toArray, List.set_cons_zero, List.set_cons_succ]
        refine wpq_take 7 (some 44) [8, 9, 10, 11, 12, 13, 14] rfl rfl (by kernel_rfl) (by kernel_rfl) (by kernel_rfl) (by kernel_rfl) (fun _ _ _ h => h) (Or.inl ⟨by rfl, fun w hSw => by (obtain ⟨x0, x1, x2, x3, x4, x5⟩ := BoxP.cells hSw.1; obtain ⟨y0, y1, y2, y3, y4, y5⟩ := BoxP.cells hSw.2; go_simp; with_reducible rfl)⟩) hHeld ?_
        simp only [Act.put, List.setIfInBounds_toArray, List.set_cons_zero, List.set_cons_succ]
        refine wpq_take 8 (some 45) [9, 10, 11, 12, 13, 14] rfl rfl (by kernel_rfl) (by kernel_rfl) (by kernel_rfl) (by kernel_rfl) (fun _ _ _ h => h) (Or.inl ⟨by rfl, fun w hSw => by (obtain ⟨x0, x1, x2, x3, x4, x5⟩ := BoxP.cells hSw.1; obtain ⟨y0, y1, y2, y3, y4, y5⟩ := BoxP.cells hSw.2; go_simp; with_reducible rfl)⟩) hHeld ?_
        simp only [Act.put, List.setIfInBounds_toArray, List.set_cons_zero, List.set_cons_succ]
        refine wpq_take 9 (some 46) [10, 11, 12, 13, 14] rfl rfl (by kernel_rfl) (by kernel_rfl) (by kernel_rfl) (by kernel_rfl) (fun _ _ _ h => h) (Or.inl ⟨by rfl, fun w hSw => by (obtain ⟨x0, x1, x2, x3, x4, x5⟩ := BoxP.cells hSw.1; obtain ⟨y0, y1, y2, y3, y4, y5⟩ := BoxP.cells hSw.2; go_simp; with_reducible rfl)⟩) hHeld ?_
        simp only [Act.put, List.setIfInBounds_toArray, List.set_cons_zero, List.set_cons_succ]
        refine wpq_one 3 (by kernel_rfl) rfl (fun K hK => ?_)
        go_simp
        refine (HIH.out _ q ⟨p0, p1, p2, p3, p4, .slice pa pn pcap⟩ wd HRD.out HSQ.out HCQ.out).mono ?_
        rintro e w6 ⟨c6, rfl, hq6, hb6⟩
        have HB6 := Lib.hid (HB5.out.below hb6)
        have HD6 := Lib.hid (HD5.out.stay hb6)
        have HW6 := Lib.hid (HW5.out.keep2 (w' := w6) (fun x _ hx => hb6.block x hx))
        have HR6 := Lib.hid (HRD.out.stay hb6)
        have HQ6 := Lib.hid (hq6.mono (M := fun g => (((N g ∧ g < w.heap.size) ∨ w.heap.size + 2 ≤ g) ∧ some g ≠ (Value.slice A n cap).ownBlock) ∧ g ≠ w6.heap.size) (fun g hg hl => by
          have hz5 := HZ5.out
          refine ⟨⟨?_, fun he => ?_⟩, by omega⟩
          · rcases hg with hg | hg
            · exact .inl hg
            · exact .inr (by omega)
          · have h1 := HW5.out.1.lt g he.symm
            rcases hg with hg | hg <;> omega))
        have HZ6 : Hid (w.heap.size + 2 ≤ w6.heap.size ∧ ∀ x, (Value.slice A n cap).ownBlock = some x → x < wr.heap.size ∧ x < w6.heap.size) := ⟨HD6.out.ret.lt, fun x hx => ⟨HOWR.out x hx, (HW6.out.1.lt x hx).2⟩⟩
        generalize hdq : derR b d q = dq at *
        clear hq6 hHeld HB5 HD5 HW5 HRD
        refine hK.out _ _ ⟨HB6.out, HD6.out.box⟩ (fun hHeld => ?_)
        clear hK K
        refine wpq_one 4 (by kernel_rfl) rfl (fun K hK => ?_)
        go_simp
        generalize hW : World.alloc w6 _ = w7
        obtain ⟨ha, -, hz7, hb7⟩ := alloc_of hW
        have HOne := Lib.hid (OwnP.one (N := fun g => ((N g ∧ g < w.heap.size) ∨ w.heap.size + 2 ≤ g) ∧ some g ≠ (Value.slice A n cap).ownBlock) (show BoxP w6.heap.size c6 w7 from ha) (HQ6.out.stay hb7))
        have HBW7 := Lib.hid (HD6.out.bel.trans (hb7.mono HD6.out.bel.size))
        clear hHeld
        refine hK.out _ _ ⟨HB6.out.below hb7, HD6.out.box.below hb7⟩ (fun hHeld => ?_)
        clear hK K hHeld
        obtain ⟨cr, r1, r2, r3⟩ := HP.out.list.rest HBW7.out k hlt
        refine wpq_one 10 (by kernel_rfl) rfl (fun K hK => ?_)
        rw [if_neg (show ¬ lcap = k + 1 from fun h => hcap h.symm)]
        refine step_appendL (N := fun g => ((N g ∧ g < w.heap.size) ∨ w.heap.size + 2 ≤ g) ∧ some g ≠ (Value.slice A n cap).ownBlock) (B := 0) (v := .slice (some ⟨w6.heap.size, 0, none⟩) 1 1) (cs := [c6]) (cr := cr) (ps := [dq]) (pr := l.drop (k + 1)) rfl _ _ rfl HOne.out r1 (fun i h1 h2 => (r2 i h1 h2).mono (fun g hg _ => ⟨⟨.inl hg, fun he => by have := HOWB.out g he.symm; omega⟩, fun he => by have := own_one he.symm; have := HZ6.out.1; omega⟩)) rfl ⟨g, o + (k + 1) * 6, none⟩ _ _ rfl ?hm ?hcell ?hn (Nat.zero_le _) ?_
        case hm =>
          rw [r1, List.length_drop]

        case hcell =>
          intro i hi j hj
          have hadd : (⟨g, o + (k + 1) * 6, none⟩ : Addr).add (i * 6 + j) = ⟨g, o + (k + 1) * 6 + (i * 6 + j), none⟩ := by unfold Addr.add; split <;> simp_all
          rw [hadd]
          exact r3 i hi j hj
        case hn =>
          rw [r1, List.length_drop]
          have := HLN.out
          simp only [List.length_cons, List.length_nil]
          omega
        intro v8 w8 hown8 hg8 hat8
        have hb78 : Below w6.heap.size w7 w8 := ⟨hg8.os, hg8.tape, hg8.output, hg8.size, fun x hx => hg8.block x (by omega) (fun he => by have := own_one he.symm; omega)⟩
        have hb68 := hb7.trans hb78
        have HL8 := Lib.hid (show RdL (fun g => ((N g ∧ g < w.heap.size) ∨ w.heap.size + 2 ≤ g) ∧ some g ≠ (Value.slice A n cap).ownBlock) w8 v8 (dq :: l.drop (k + 1)) from hown8.node2 (fun x hx => by
          have hz6 := HZ6.out.1
          have hx6 : w6.heap.size ≤ x := by
            rcases hat8 with h | h
            · rw [h] at hx
              have := own_one hx
              omega
            · rw [h] at hx
              cases hx
              omega
          exact ⟨.inr (by omega), fun he => by have := (HZ6.out.2 x he.symm).2; omega⟩) 0 0 0 0 0)
        have HB8 := Lib.hid (HB6.out.below hb68)
        have HD8 := Lib.hid (HD6.out.stay hb68)
        have HW8 := Lib.hid (HW6.out.keep2 (w' := w8) (fun x _ hx => hb68.block x hx))
        have HR8 := Lib.hid (HR6.out.stay hb68)
        clear r1 r2 r3 hown8 hg8 hat8 hb78 hb68 hW ha hb7 hz7 HOne HBW7 HB6 HD6 HW6 HR6 HQ6
        refine hK.out _ _ ⟨HB8.out, HD8.out.box⟩ (fun hHeld => ?_)
        clear hK K hHeld
        refine wpq_one 11 (by kernel_rfl) rfl (fun K hK => ?_)
        go_simp
        refine (cat_any _ (dq :: l.drop (k + 1)) v8 w8 HL8.out (by have := HLN.out; rw [List.length_cons, List.length_drop]; omega)).mono ?_
        rintro e w9 ⟨c9, rfl, hq9, hb9⟩
        have HB9 := Lib.hid (HB8.out.below hb9)
        have HD9 := Lib.hid (HD8.out.stay hb9)
        have HW9 := Lib.hid (HW8.out.keep2 (w' := w9) (fun x _ hx => hb9.block x hx))
        have HR9 := Lib.hid (HR8.out.stay hb9)
        have HZ8 : Hid (w.heap.size + 2 ≤ w8.heap.size) := HD8.out.ret.lt
        have HQ9 := Lib.hid (hq9.mono (M := fun g => ((N g ∧ g < w.heap.size) ∨ w.heap.size + 2 ≤ g) ∧ some g ≠ (Value.slice A n cap).ownBlock) (fun g hg hl => by
          have hz8 := HZ8.out
          rcases hg with hg | hg
          · exact hg
          · exact ⟨.inr (by omega), fun he => by have := (HW8.out.1.lt g he.symm).2; omega⟩))
        generalize hcd : catD (dq :: l.drop (k + 1)) [] = cd at *
        clear hq9 HB8 HD8 HW8 HR8 HL8
        refine hK.out _ _ ⟨HB9.out, HD9.out.box⟩ (fun hHeld => ?_)
        clear hK K hHeld hb9
        refine wpq_one 12 (by kernel_rfl) rfl (fun K hK => ?_)
        go_simp
        have hb10 : Below w9.heap.size w9 (w9.alloc (.cells c9.cells.toArray 24)) := (Below.refl _ _).alloc (Nat.le_refl _) _
        refine hK.out _ _ ⟨HB9.out.below hb10, HD9.out.box.below hb10⟩ (fun hHeld => ?_)
        clear hK K hHeld hb10
        refine wpq_one 13 (by kernel_rfl) rfl (fun K hK => ?_)
        refine step_pushP (N := fun g => (N g ∧ g < w.heap.size) ∨ w.heap.size + 2 ≤ g) (B := w.heap.size + 2) (c := c9) (p := cd) (v := .slice A n cap) (cs := cs) (ps := acc) rfl _ _ rfl HW9.out HQ9.out rfl rfl rfl ?hn2 ?hb2 ?_
        case hn2 =>
          have := HC.out
          have := HLN.out
          omega
        case hb2 => exact HD9.out.ret.lt
        rintro v' w11 hown hg ⟨A11, cap11, rfl⟩ hat
        have hlo : ∀ x, x < w.heap.size + 2 → x < w9.heap.size → w11.heap[x]? = w9.heap[x]? := fun x h1 h2 => hg.block x h2 (fun he => by have := HOWB.out x he.symm; omega)
        have hb11 : Below (w.heap.size + 2) w9 w11 := ⟨hg.os, hg.tape, hg.output, hg.size, fun x hx => hlo x hx (by have := HD9.out.ret.lt; omega)⟩
        have HB11 := Lib.hid (show BoxP wr.heap.size ⟨p0, p1, p2, p3, p4, .slice pa pn pcap⟩ w11 from (hg.block _ HB9.out.lt (fun he => by have := HOWR.out _ he.symm; omega)).trans HB9.out)
        have HD11 := Lib.hid (show DerS ⟨3, c1, c2, c3, c4, .slice (some ⟨g, o, none⟩) l.length lcap⟩ w w11 from ⟨(hlo _ (by omega) HD9.out.box.lt).trans HD9.out.box, (hlo _ (by omega) HD9.out.ret.lt).trans HD9.out.ret, HD9.out.bel.trans (hb11.mono (by omega))⟩)
        have HOW := Lib.hid hown
        have HR11 := Lib.hid ((HR9.out.mono (M := fun g => (N g ∧ g < w.heap.size)) (fun g h _ => h)).keep (w' := w11) (fun x hx hl => hlo x (by omega) hl))
        clear hown hlo hb11 hg hat HB9 HD9 HW9 HR9 HQ9
        refine hK.out _ _ ⟨HB11.out, HD11.out.box⟩ (fun hHeld => ?_)
        clear hK K hHeld
        refine wpq_end 14 (by kernel_rfl) rfl (by kernel_rfl) (fun K hK => ?_)
        go_simp
        refine hK.out _ _ ?_
        clear hK K
        refine wpq_done (by kernel_rfl) ?_ _
        go_simp
        have HCAT : Hid (cd = catD (derR b d q :: l.drop (k + 1)) []) := by unfold Hid; rw [hdq, hcd]
        have HWN : Hid (waysD (fun a => matR a []) (derR b d) l = (acc ++ [cd]) ++ (if matR q [] then waysD (fun a => matR a []) (derR b d) (l.drop (k + 1)) else [])) := by
          unfold Hid
          rw [HWS.out, HDR.out, waysD, HCAT.out]
          simp
        clear hdq hcd HCAT
        have HNU := Lib.hid (Nullable_any q ⟨p0, p1, p2, p3, p4, .slice pa pn pcap⟩ w11 HR11.out.rd)
        obtain ⟨b0, b1, b2, b3, b4, b5⟩ := HB11.out.cells
        simp only at b0 b1 b2 b3 b4 b5
        go_wp2_with fail
        refine HNU.out.mono ?_
        rintro e w12 ⟨rfl, hb12⟩
        have HD12 := Lib.hid (HD11.out.stay hb12)
        have HW12 := Lib.hid (HOW.out.keep2 (w' := w12) (fun x _ hx => hb12.block x hx))
        clear hb12 HNU HB11 HD11 HOW HR11 b0 b1 b2 b3 b4 b5
        cases hnu : matR q [] with
        | true =>
          rw [hnu, if_pos rfl] at HWN
          clear hnu
          go_wp2_with fail
          exact ⟨⟨k + 1, A11, _, cap11, cs ++ [c9], acc ++ [cd], by omega, rfl, rfl, ⟨by simp, by have := HC.out; simp; omega, by have := HC.out; simp; omega⟩, HD12.out, HW12.out, HWN.out⟩, by simp [intOf]; omega⟩
        | false =>
          rw [hnu, if_neg (by simp), List.append_nil] at HWN
          clear hnu
          have HQ : Hid (derR b (d + 1) (.mk 3 c1 c2 c3 c4 l) = altD (acc ++ [cd])) := by
            unfold Hid
            rw [HQ0.out, HWN.out]
          have HDX := HD12
          have HF : Hid (RdL (fun g => (N g ∧ g < w.heap.size) ∨ w.heap.size + 2 ≤ g) w12 (.slice A11 (cs.length + 1) cap11) (acc ++ [cd])) := HW12.out.node2 (fun x hx => .inr (HW12.out.1.lt x hx).1) 0 0 0 0 0
          have HC2 := Lib.hid (alt_any _ _ _ w12 HF.out (by have := HLN.out; have := HC.out; rw [List.length_append, List.length_cons, List.length_nil]; omega))
          have HZ2 : Hid (w.heap.size + 2 ≤ w12.heap.size) := HDX.out.ret.lt
          go_wp2_with fail
          refine HC2.out.mono ?_
          rintro e w8 ⟨c8, rfl, hq8, hb8⟩
          have HD8 := Lib.hid (HDX.out.stay hb8)
          have HQ8 := Lib.hid (hq8.mono (M := fun g => (N g ∧ g < w.heap.size) ∨ w.heap.size + 2 ≤ g) (fun g hg _ => by have := HZ2.out; rcases hg with hg | hg; exact hg; exact .inr (by omega)))
          obtain ⟨fa, fcap, hfa⟩ := hq8.rd.forms
          obtain ⟨q0, q1, q2, q3, q4, q5⟩ := c8
          simp only at hfa
          subst hfa
          simp only [aggP]
          clear hq8 hb8
          obtain ⟨z0, z1, z2, z3, z4, z5⟩ := HD8.out.ret.cells
          obtain ⟨y0, y1, y2, y3, y4, y5⟩ := HD8.out.ret.free
          simp only at z0 z1 z2 z3 z4 z5
          go_wp2_with fail
          generalize hW : World.setCell _ _ _ = w9
          obtain ⟨hbx, hok⟩ := RetP.fin2 (N := N) HD8.out.ret HD8.out.bel HQ8.out hW
          obtain ⟨s0, s1, s2, s3, s4, s5⟩ := hbx.cells
          refine bodyPost_ret (v := aggP ⟨q0, q1, q2, q3, q4, .slice fa _ fcap⟩) (by simp only at s0 s1 s2 s3 s4 s5; simp [results, Tryd.results38, go_sem, s0, s1, s2, s3, s4, s5]; try rfl) rfl ?_
          rw [HQ.out]
          exact hok
end Go.Proofs.YtggolmamacoplaaDoor

namespace Go.Proofs.YtggolmamacoplaaDoor
open Go.RowKit Go.Shelf
set_option maxHeartbeats 4000000
set_option maxRecDepth 100000

theorem BoxP.set3 {b : Nat} {o l h mn mx : Int} {a : Value} {w w4 : World} (hx : BoxP b ⟨o, l, h, mn, mx, a⟩ w) (v : Int) (he : w.setCell ⟨b, 3, none⟩ (.int .i64 v) = w4) : BoxP b ⟨o, l, h, v, mx, a⟩ w4 ∧ Below b w w4 ∧ ∀ x, x ≠ b → w4.heap[x]? = w.heap[x]? := by
  subst he
  exact ⟨heap_setCell_same w b 3 _ _ (.int .i64 v) hx, (Below.refl _ _).setCell (p := ⟨b, 3, none⟩) (Nat.le_refl _) _, fun x hx => Below.heap_setCell _ _ _ _ (by show x ≠ b; exact hx)⟩
theorem BoxP.set4 {b : Nat} {o l h mn mx : Int} {a : Value} {w w4 : World} (hx : BoxP b ⟨o, l, h, mn, mx, a⟩ w) (v : Int) (he : w.setCell ⟨b, 4, none⟩ (.int .i64 v) = w4) : BoxP b ⟨o, l, h, mn, v, a⟩ w4 ∧ Below b w w4 ∧ ∀ x, x ≠ b → w4.heap[x]? = w.heap[x]? := by
  subst he
  exact ⟨heap_setCell_same w b 4 _ _ (.int .i64 v) hx, (Below.refl _ _).setCell (p := ⟨b, 4, none⟩) (Nat.le_refl _) _, fun x hx => Below.heap_setCell _ _ _ _ (by show x ≠ b; exact hx)⟩
theorem pair_rd {N : Nat → Prop} {w : World} {c1 c2 : PC} {p1 p2 : RX} {m : Nat} (h1 : RdQ N w c1 p1) (h2 : RdQ N w c2 p2) (hb : w.heap[m]? = some (.cells (c1.cells ++ c2.cells).toArray 24 (0, 0))) (hN : N m) : RdL N w (.slice (some ⟨m, 0, none⟩) 2 2) [p1, p2] := by
  show RdQ N w ⟨0, 0, 0, 0, 0, .slice (some ⟨m, 0, none⟩) 2 2⟩ (.mk 0 0 0 0 0 [p1, p2])
  refine .mk 0 0 0 0 0 [p1, p2] _ (fun i => if i = 0 then c1 else c2) ⟨some ⟨m, 0, none⟩, 2, rfl, Nat.le_refl _, by decide, (fun h => by cases h), fun _ => ⟨m, 0, rfl, (Array.getElem?_eq_some_iff.1 hb).1, fun i hi j hj => ?_⟩⟩ (fun _ => ⟨m, 0, 2, 2, rfl, hN⟩) (fun i hi => ?_)
  · have := cell_of_row w m (0 + i * 6 + j) _ _ (0, 0) hb
    rw [this, List.getElem?_toArray]
    have h01 : i = 0 ∨ i = 1 := by simp only [List.length_cons, List.length_nil] at hi; omega
    rcases h01 with rfl | rfl
    · rw [List.getElem?_append_left (by rw [PC.len]; omega)]
      simp
    · rw [List.getElem?_append_right (by rw [PC.len]; omega), PC.len]
      simp
  · have h01 : i = 0 ∨ i = 1 := by simp only [List.length_cons, List.length_nil] at hi; omega
    rcases h01 with rfl | rfl
    · exact h1
    · exact h2
theorem der_op5 (b : Int) (d : Nat) (IH : DerC b d) (N : Nat → Prop) (lo hi mn mx : Int) (l : List RX) (c : PC) (w : World) (hp : RdQ N w c (.mk 5 lo hi mn mx l)) (hsn : sndR (d + 1) (.mk 5 lo hi mn mx l) = true) (hcn : cntN (d + 1) (.mk 5 lo hi mn mx l) ≤ 1000000) :
    Calls Tryd.prog 38 #[aggP c, .int .i64 b] w (RetP N (derR b (d + 1) (.mk 5 lo hi mn mx l)) w) := by
  have HSN := Lib.hid hsn
  have HCN := Lib.hid hcn
  have HP := Lib.hid hp
  have HLN := Lib.hid (cnt_len hsn hcn)
  obtain ⟨la, lcap, hla⟩ := hp.rd.forms
  have hop : c.op = 5 ∧ c.lo = lo ∧ c.hi = hi ∧ c.mn = mn ∧ c.mx = mx := by cases hp; exact ⟨rfl, rfl, rfl, rfl, rfl⟩
  obtain ⟨c0, c1, c2, c3, c4, c5⟩ := c
  simp only at hop hla
  obtain ⟨rfl, rfl, rfl, rfl, rfl⟩ := hop
  rw [show (RX.mk 5 c1 c2 c3 c4 l).args = l from rfl] at hla
  subst hla
  have hll : (l.length : Int) ≤ 1000000 := by have := HLN.out; omega
  simp only [aggP]
  clear hp hsn hcn
  go_enter Tryd.func38, Tryd.ntmps38
  go_upto_region 1 with fail
  generalize hW : World.alloc w _ = w1
  obtain ⟨ha, -, hz1, hb1⟩ := alloc_of hW
  generalize hW2 : World.alloc w1 _ = w2
  obtain ⟨ha2, -, hz2, hb2⟩ := alloc_of hW2
  rw [hz1] at ha2
  have HD := Lib.hid (show DerS ⟨5, c1, c2, c3, c4, .slice la l.length lcap⟩ w w2 from ⟨(hb2.block _ (by omega)).trans ha, ha2, hb1.trans (hb2.mono hb1.size)⟩)
  clear hW ha hz1 hb1 hW2 ha2 hz2 hb2
  obtain ⟨t0, t1, t2, t3, t4, t5⟩ := HD.out.box.cells
  simp only at t0 t1 t2 t3 t4 t5
  have hfm : l.length = 1 ∧ 0 ≤ c3 ∧ c3 ≤ 64 ∧ (c4 = -1 ∨ (c3 ≤ c4 ∧ c4 ≤ 64)) := by
    have := (snd_node HSN.out).1
    simp only [formR] at this
    simp at this
    omega
  obtain ⟨hl1, hc3, hc3', hc4⟩ := hfm
  obtain ⟨q, rfl⟩ : ∃ q, l = [q] := by
    match l, hl1 with
    | [q], _ => exact ⟨q, rfl⟩
  clear hl1 hll HLN
  simp only [List.length_cons, List.length_nil, Nat.zero_add] at *
  have HIH := Lib.hid IH
  clear IH
  have HSQ := Lib.hid ((snd_node HSN.out).2 q (by simp))
  have HCQ := Lib.hid (cnt_part HCN.out (show q ∈ [q] by simp))
  go_upto_region 29 with fail
  generalize hW : World.alloc w2 _ = w3
  obtain ⟨ha, -, -, hb3⟩ := alloc_of hW
  have HB := Lib.hid (show BoxP w2.heap.size ⟨5, c1, c2, c3, c4, .slice la 1 lcap⟩ w3 from ha)
  have HD3 := Lib.hid (HD.out.stay hb3)
  have HD2 := HD
  clear hW ha hb3 HD t0 t1 t2 t3 t4 t5
  obtain ⟨t0, t1, t2, t3, t4, t5⟩ := HD3.out.box.cells
  obtain ⟨x0, x1, x2, x3, x4, x5⟩ := HB.out.free
  simp only at t0 t1 t2 t3 t4 t5
  have hwr : IntKind.i64.wrap (c3 - 1) = c3 - 1 := IntWalk.i64_in _ (by omega)
  obtain ⟨y0, y1, y2, y3, y4, y5⟩ := HB.out.cells
  simp only at y0 y1 y2 y3 y4 y5
  go_upto_region 30 with fail
  generalize hW : World.setCell w3 _ _ = w4
  have hmx : (max 0 (c3 - 1) : Int) = if c3 - 1 < 0 then 0 else c3 - 1 := by split <;> omega
  generalize (max 0 (c3 - 1) : Int) = m3 at *
  have HMX := Lib.hid hmx
  clear hmx
  clear x0 x1 x2 x3 x4 x5 y0 y1 y2 y3 y4 y5 t0 t1 t2 t3 t4 t5
  obtain ⟨hx1, hx2, hx3⟩ := HB.out.set3 m3 hW
  have HB4 := Lib.hid hx1
  have hlt2 : w.heap.size + 2 ≤ w2.heap.size := HD2.out.ret.lt
  have HD4 := Lib.hid (show DerS ⟨5, c1, c2, c3, c4, .slice la 1 lcap⟩ w w4 from ⟨(hx3 _ (by omega)).trans HD3.out.box, (hx3 _ (by omega)).trans HD3.out.ret, HD3.out.bel.trans (hx2.mono (by omega))⟩)
  have HZ := Lib.hid hlt2
  clear hW hx1 hx2 hx3 hlt2 HB HD3 HD2
  obtain ⟨g, o, c, rfl, hc6, hrq⟩ := RdL.part HP.out.list HD4.out.bel 0 (by simp)
  have HRD := Lib.hid (show RdQ (fun g => N g ∧ g < w.heap.size) w4 c q from hrq)
  have HP6 := Lib.hid (show ∀ j, j < 6 → w4.cell? ⟨g, o + j, none⟩ = (PC.cells c)[j]? from fun j hj => by have := hc6 j hj; simpa using this)
  have HGS : Hid (g < w.heap.size) := by
    cases HP.out with
    | mk _ _ _ _ _ _ _ cs hl hN hL =>
    obtain ⟨_, _, he, _, _, _, h3⟩ := hl
    cases he
    obtain ⟨_, _, e, h, _⟩ := h3 (by simp)
    cases e
    exact h
  have HRL := Lib.hid (HP.out.list.stays HD4.out.bel)
  have HLL := Lib.hid (show RdL (fun g => N g ∧ g < w.heap.size) w (.slice (some ⟨g, o, none⟩) 1 lcap) [q] from RdQ.mono HP.out.list (fun g h1 h2 => ⟨h1, h2⟩))
  clear hc6 hrq HRL
  obtain ⟨t0, t1, t2, t3, t4, t5⟩ := HD4.out.box.cells
  obtain ⟨x0, x1, x2, x3, x4, x5⟩ := HB4.out.free
  obtain ⟨y0, y1, y2, y3, y4, y5⟩ := HB4.out.cells
  simp only at t0 t1 t2 t3 t4 t5 y0 y1 y2 y3 y4 y5
  by_cases h0 : c4 = 0
  · subst h0
    have HQ := Lib.hid (show derR b (d + 1) (.mk 5 c1 c2 c3 0 [q]) = nonR from by simp [derR, repD])
    go_wp2_with fail
    refine (none_any w4).mono ?_
    rintro e w8 ⟨rfl, hb8⟩
    have HD8 := Lib.hid (HD4.out.stay hb8)
    clear hb8
    obtain ⟨z0, z1, z2, z3, z4, z5⟩ := HD8.out.ret.cells
    obtain ⟨y0, y1, y2, y3, y4, y5⟩ := HD8.out.ret.free
    simp only at z0 z1 z2 z3 z4 z5
    simp only [aggP, zeroP]
    go_wp2_with fail
    generalize hW : World.setCell _ _ _ = w9
    obtain ⟨hbx, hok⟩ := RetP.fin2 (N := N) (d := zeroP 0) HD8.out.ret HD8.out.bel (zero_rd _ 0 _) hW
    obtain ⟨s0, s1, s2, s3, s4, s5⟩ := hbx.cells
    refine bodyPost_ret (v := aggP (zeroP 0)) (by simp only [zeroP] at s0 s1 s2 s3 s4 s5; simp [results, Tryd.results38, go_sem, zeroP, s0, s1, s2, s3, s4, s5]) rfl ?_
    rw [HQ.out]
    exact hok
  obtain ⟨pa, pcap, hpa⟩ := HRD.out.rd.forms
  generalize q.args.length = pn at *
  obtain ⟨p0, p1, p2, p3, p4, p5⟩ := c
  simp only at hpa
  subst hpa
  by_cases h1 : c4 = 1
  · subst h1
    have HQ := Lib.hid (show derR b (d + 1) (.mk 5 c1 c2 c3 1 [q]) = catD [derR b d q, .mk 1 0 0 0 0 []] [] from by simp [derR, repD, empR])
    go_wp2_with fail
    refine (empty_any w4).mono ?_
    rintro e w8 ⟨rfl, hb8⟩
    have HB8 := Lib.hid (HB4.out.below hb8)
    have HD8 := Lib.hid (HD4.out.stay hb8)
    have HR8 := Lib.hid (HRD.out.stay hb8)
    have HP8 : Hid (∀ j, j < 6 → w8.cell? ⟨g, o + j, none⟩ = (PC.cells ⟨p0, p1, p2, p3, p4, .slice pa pn pcap⟩)[j]?) := fun j hj => (hb8.cell (p := ⟨g, o + j, none⟩) (by have := HGS.out; have := HD4.out.bel.size; show g < w4.heap.size; omega)).trans (HP6.out j hj)
    clear hb8 HB4 HD4 HRD HP6 t0 t1 t2 t3 t4 t5 x0 x1 x2 x3 x4 x5 y0 y1 y2 y3 y4 y5
    obtain ⟨t0, t1, t2, t3, t4, t5⟩ := HD8.out.box.cells
    obtain ⟨x0, x1, x2, x3, x4, x5⟩ := HB8.out.free
    obtain ⟨y0, y1, y2, y3, y4, y5⟩ := HB8.out.cells
    simp only at t0 t1 t2 t3 t4 t5 y0 y1 y2 y3 y4 y5
    simp only [aggP, zeroP]
    go_upto_region 34 with fail
    generalize hW : World.setCell _ _ _ = w5
    have hot := set6_other hW
    obtain ⟨hx1, hx2⟩ := HB8.out.set (d := ⟨1, 0, 0, 0, 0, .slice none 0 0⟩) hW
    have HBX := Lib.hid hx1
    have hz := HZ.out
    have hgs := HGS.out
    have HDX := Lib.hid (show DerS ⟨5, c1, c2, c3, 1, .slice (some ⟨g, o, none⟩) 1 lcap⟩ w w5 from ⟨(hot _ (by omega)).trans HD8.out.box, (hot _ (by omega)).trans HD8.out.ret, HD8.out.bel.trans (hx2.mono (by omega))⟩)
    have HRX := Lib.hid (HR8.out.keep (w' := w5) (fun x hx _ => hot x (by omega)))
    have HPX : Hid (∀ j, j < 6 → w5.cell? ⟨g, o + j, none⟩ = (PC.cells ⟨p0, p1, p2, p3, p4, .slice pa pn pcap⟩)[j]?) := fun j hj => (hx2.cell (p := ⟨g, o + j, none⟩) (by show g < w2.heap.size; omega)).trans (HP8.out j hj)
    have HRRX := Lib.hid (zero_rd (fun g => (N g ∧ g < w.heap.size) ∨ w.heap.size + 2 ≤ g) 1 w5)
    clear hW hot hx1 hx2 HB8 HD8 HR8 HP8 t0 t1 t2 t3 t4 t5 x0 x1 x2 x3 x4 x5 y0 y1 y2 y3 y4 y5 hz hgs HLL
    go_upto_region 36 with fail
    refine wpq_region (fun w' => (BoxP w.heap.size ⟨5, c1, c2, c3, 1, .slice (some ⟨g, o, none⟩) 1 lcap⟩ w' ∧ BoxP w2.heap.size ⟨1, 0, 0, 0, 0, .slice none 0 0⟩ w') ∧ Hid (∀ j, j < 6 → w'.cell? ⟨g, o + j, none⟩ = (PC.cells ⟨p0, p1, p2, p3, p4, .slice pa pn pcap⟩)[j]?)) 9 (by kernel_rfl) ⟨⟨HDX.out.box, HBX.out⟩, HPX⟩ (fun hHeld => ?_)
    have hbd : Below w5.heap.size w5 w5.drew := below_drewN (Below.refl _ _) 1
    replace HBX := Lib.hid (HBX.out.below hbd)
    replace HDX := Lib.hid (HDX.out.stay hbd)
    replace HRX := Lib.hid (HRX.out.stay hbd)
    replace HRRX := Lib.hid (HRRX.out.stay hbd)
    clear hbd HPX
    generalize w5.drew = wd at *
    refine wpq_take 0 (some 117) [1, 2, 3, 5, 7, 8, 9] rfl rfl (by kernel_rfl) (by kernel_rfl) (by kernel_rfl) (by kernel_rfl) (fun _ _ _ h => h) (Or.inl ⟨by rfl, fun w hSw => by (obtain ⟨x0, x1, x2, x3, x4, x5⟩ := BoxP.cells hSw.1.1; obtain ⟨y0, y1, y2, y3, y4, y5⟩ := BoxP.cells hSw.1.2; obtain ⟨z0, z1, z2, z3, z4, z5⟩ := cells6 hSw.2.out; simp only at x0 x1 x2 x3 x4 x5 y0 y1 y2 y3 y4 y5 z0 z1 z2 z3 z4 z5; go_simp; with_reducible rfl)⟩) hHeld ?_
    simp only [Act.put, List.setIfInBounds_toArray, List.set_cons_zero, List.set_cons_succ]
    refine wpq_take 1 (some 118) [2, 3, 5, 7, 8, 9] rfl rfl (by kernel_rfl) (by kernel_rfl) (by kernel_rfl) (by kernel_rfl) (fun _ _ _ h => h) (Or.inl ⟨by rfl, fun w hSw => by (obtain ⟨x0, x1, x2, x3, x4, x5⟩ := BoxP.cells hSw.1.1; obtain ⟨y0, y1, y2, y3, y4, y5⟩ := BoxP.cells hSw.1.2; obtain ⟨z0, z1, z2, z3, z4, z5⟩ := cells6 hSw.2.out; simp only at x0 x1 x2 x3 x4 x5 y0 y1 y2 y3 y4 y5 z0 z1 z2 z3 z4 z5; go_simp; with_reducible rfl)⟩) hHeld ?_
    simp only [Act.put, List.setIfInBounds_toArray, List.set_cons_zero, List.set_cons_succ]
    refine wpq_take 2 (some 119) [3, 5, 7, 8, 9] rfl rfl (by kernel_rfl) (by kernel_rfl) (by kernel_rfl) (by kernel_rfl) (fun _ _ _ h => h) (Or.inl ⟨by rfl, fun w hSw => by (obtain ⟨x0, x1, x2, x3, x4, x5⟩ := BoxP.cells hSw.1.1; obtain ⟨y0, y1, y2, y3, y4, y5⟩ := BoxP.cells hSw.1.2; obtain ⟨z0, z1, z2, z3, z4, z5⟩ := cells6 hSw.2.out; simp only at x0 x1 x2 x3 x4 x5 y0 y1 y2 y3 y4 y5 z0 z1 z2 z3 z4 z5; go_simp; with_reducible rfl)⟩) hHeld ?_
    simp only [Act.put, List.setIfInBounds_toArray, List.set_cons_zero, List.set_cons_succ]
    refine wpq_take 3 (some 120) [5, 7, 8, 9] rfl rfl (by kernel_rfl) (by kernel_rfl) (by kernel_rfl) (by kernel_rfl) (fun _ _ _ h => h) (Or.inl ⟨by rfl, fun w hSw => by (obtain ⟨x0, x1, x2, x3, x4, x5⟩ := BoxP.cells hSw.1.1; obtain ⟨y0, y1, y2, y3, y4, y5⟩ := BoxP.cells hSw.1.2; obtain ⟨z0, z1, z2, z3, z4, z5⟩ := cells6 hSw.2.out; simp only at x0 x1 x2 x3 x4 x5 y0 y1 y2 y3 y4 y5 z0 z1 z2 z3 z4 z5; go_simp; with_reducible rfl)⟩) hHeld ?_
    simp only [Act.put, List.setIfInBounds_toArray, List.set_cons_zero, List.set_cons_succ]
    refine wpq_take 4 (some 121) [5, 7, 8, 9] rfl rfl (by kernel_rfl) (by kernel_rfl) (by kernel_rfl) (by kernel_rfl) (fun _ _ _ h => h) (Or.inl ⟨by rfl, fun w hSw => by (obtain ⟨x0, x1, x2, x3, x4, x5⟩ := BoxP.cells hSw.1.1; obtain ⟨y0, y1, y2, y3, y4, y5⟩ := BoxP.cells hSw.1.2; obtain ⟨z0, z1, z2, z3, z4, z5⟩ := cells6 hSw.2.out; simp only at x0 x1 x2 x3 x4 x5 y0 y1 y2 y3 y4 y5 z0 z1 z2 z3 z4 z5; go_simp; with_reducible rfl)⟩) hHeld ?_
    simp only [Act.put, List.setIfInBounds_toArray, List.set_cons_zero, List.set_cons_succ]
    refine wpq_take 6 (some 123) [7, 8, 9] rfl rfl (by kernel_rfl) (by kernel_rfl) (by kernel_rfl) (by kernel_rfl) (fun _ _ _ h => h) (Or.inl ⟨by rfl, fun w hSw => by (obtain ⟨x0, x1, x2, x3, x4, x5⟩ := BoxP.cells hSw.1.1; obtain ⟨y0, y1, y2, y3, y4, y5⟩ := BoxP.cells hSw.1.2; obtain ⟨z0, z1, z2, z3, z4, z5⟩ := cells6 hSw.2.out; simp only at x0 x1 x2 x3 x4 x5 y0 y1 y2 y3 y4 y5 z0 z1 z2 z3 z4 z5; go_simp; with_reducible rfl)⟩) hHeld ?_
    simp only [Act.put, List.setIfInBounds_toArray, List.set_cons_zero, List.set_cons_succ]
    refine wpq_one 5 (by kernel_rfl) rfl (fun K hK => ?_)
    go_simp
    refine (HIH.out _ q ⟨p0, p1, p2, p3, p4, .slice pa pn pcap⟩ wd HRX.out HSQ.out HCQ.out).mono ?_
    rintro e w6 ⟨c6, rfl, hq6, hb6⟩
    have hz5 := HDX.out.ret.lt
    have HB6 := Lib.hid (HBX.out.below hb6)
    have HD6 := Lib.hid (HDX.out.stay hb6)
    have HR6 := Lib.hid (HRRX.out.stay hb6)
    have HQ6 := Lib.hid (hq6.mono (M := fun g => (N g ∧ g < w.heap.size) ∨ w.heap.size + 2 ≤ g) (fun g hg _ => by rcases hg with hg | hg; exact .inl hg; exact .inr (by omega)))
    have HP6 : Hid (∀ j, j < 6 → w6.cell? ⟨g, o + j, none⟩ = (PC.cells ⟨p0, p1, p2, p3, p4, .slice pa pn pcap⟩)[j]?) := fun j hj => (hb6.cell (p := ⟨g, o + j, none⟩) (by have := HGS.out; show g < wd.heap.size; omega)).trans (hHeld.2.out j hj)
    generalize hdq : derR b d q = dq at *
    clear hq6 hHeld HBX HDX HRRX HRX hz5
    refine hK.out _ _ ⟨⟨HD6.out.box, HB6.out⟩, HP6⟩ (fun hHeld => ?_)
    clear hK K hHeld
    refine wpq_one 7 (by kernel_rfl) rfl (fun K hK => ?_)
    go_simp
    generalize hW : World.alloc w6 _ = w7
    obtain ⟨ha, -, hz7, hb7⟩ := alloc_of hW
    have hz6 : w.heap.size + 2 ≤ w6.heap.size := HD6.out.ret.lt
    have HL7 := Lib.hid (pair_rd (N := fun g => (N g ∧ g < w.heap.size) ∨ w.heap.size + 2 ≤ g) (m := w6.heap.size) (HQ6.out.stay hb7) (HR6.out.stay hb7) (show w7.heap[w6.heap.size]? = some (.cells (c6.cells ++ PC.cells ⟨1, 0, 0, 0, 0, .slice none 0 0⟩).toArray 24 (0, 0)) from ha) (.inr (by omega)))
    have HB7 := Lib.hid (HB6.out.below hb7)
    have HD7 := Lib.hid (HD6.out.stay hb7)
    have HP7 : Hid (∀ j, j < 6 → w7.cell? ⟨g, o + j, none⟩ = (PC.cells ⟨p0, p1, p2, p3, p4, .slice pa pn pcap⟩)[j]?) := fun j hj => (hb7.cell (p := ⟨g, o + j, none⟩) (by have := HGS.out; show g < w6.heap.size; omega)).trans (HP6.out j hj)
    clear hW ha hz7 hb7 hz6 HQ6 HR6 HB6 HD6 HP6
    refine hK.out _ _ ⟨⟨HD7.out.box, HB7.out⟩, HP7⟩ (fun hHeld => ?_)
    clear hK K hHeld
    refine wpq_one 8 (by kernel_rfl) rfl (fun K hK => ?_)
    go_simp
    refine (cat_any _ [dq, .mk 1 0 0 0 0 []] _ w7 HL7.out (by simp)).mono ?_
    rintro e w8 ⟨c8, rfl, hq8, hb8⟩
    have hz7 : w.heap.size + 2 ≤ w7.heap.size := HD7.out.ret.lt
    have HD8 := Lib.hid (HD7.out.stay hb8)
    have HB8 := Lib.hid (HB7.out.below hb8)
    have HP8 : Hid (∀ j, j < 6 → w8.cell? ⟨g, o + j, none⟩ = (PC.cells ⟨p0, p1, p2, p3, p4, .slice pa pn pcap⟩)[j]?) := fun j hj => (hb8.cell (p := ⟨g, o + j, none⟩) (by have := HGS.out; show g < w7.heap.size; omega)).trans (HP7.out j hj)
    have HQ8 := Lib.hid (hq8.mono (M := fun g => (N g ∧ g < w.heap.size) ∨ w.heap.size + 2 ≤ g) (fun g hg _ => by rcases hg with hg | hg; exact hg; exact .inr (by omega)))
    obtain ⟨fa, fcap, hfa⟩ := hq8.rd.forms
    rw [← HQ.out] at HQ8
    generalize (catD [dq, .mk 1 0 0 0 0 []] []).args.length = fl at *
    obtain ⟨q0, q1, q2, q3, q4, q5⟩ := c8
    simp only at hfa
    subst hfa
    clear hq8 hb8 hz7 hdq HL7 HB7 HD7 HP7
    refine hK.out _ _ ⟨⟨HD8.out.box, HB8.out⟩, HP8⟩ (fun hHeld => ?_)
    clear hK K hHeld HB8 HP8
    refine wpq_end 9 (by kernel_rfl) rfl (by kernel_rfl) (fun K hK => ?_)
    obtain ⟨z0, z1, z2, z3, z4, z5⟩ := HD8.out.ret.cells
    obtain ⟨y0, y1, y2, y3, y4, y5⟩ := HD8.out.ret.free
    simp only at z0 z1 z2 z3 z4 z5
    simp only [aggP]
    go_simp
    generalize hW : World.setCell _ _ _ = w9
    obtain ⟨hbx, hok⟩ := RetP.fin2 (N := N) HD8.out.ret HD8.out.bel HQ8.out hW
    clear hW
    refine hK.out _ _ ?_
    clear hK K
    refine wpq_done (by kernel_rfl) ?_ _
    go_simp
    go_wp2_with fail
    obtain ⟨s0, s1, s2, s3, s4, s5⟩ := hbx.cells
    refine bodyPost_ret (v := aggP ⟨q0, q1, q2, q3, q4, .slice fa fl fcap⟩) (by simp only at s0 s1 s2 s3 s4 s5; simp [results, Tryd.results38, go_sem, s0, s1, s2, s3, s4, s5]; try rfl) rfl ?_
    exact hok
  by_cases h2 : 1 < c4
  · have HQ := Lib.hid (show derR b (d + 1) (.mk 5 c1 c2 c3 c4 [q]) = catD [derR b d q, .mk 5 c1 c2 m3 (c4 - 1) [q]] [] from by simp [derR, repD, h0, h1, h2, HMX.out])
    have hwr2 : IntKind.i64.wrap (c4 - 1) = c4 - 1 := IntWalk.i64_in _ (by omega)
    go_upto_region 36 with fail
    generalize hW : World.setCell w4 _ _ = w5
    obtain ⟨hx1, hx2, hot⟩ := HB4.out.set4 (c4 - 1) hW
    have HBX := Lib.hid hx1
    have hz := HZ.out
    have hgs := HGS.out
    have HDX := Lib.hid (show DerS ⟨5, c1, c2, c3, c4, .slice (some ⟨g, o, none⟩) 1 lcap⟩ w w5 from ⟨(hot _ (by omega)).trans HD4.out.box, (hot _ (by omega)).trans HD4.out.ret, HD4.out.bel.trans (hx2.mono (by omega))⟩)
    have HRX := Lib.hid (HRD.out.keep (w' := w5) (fun x hx _ => hot x (by omega)))
    have HPX : Hid (∀ j, j < 6 → w5.cell? ⟨g, o + j, none⟩ = (PC.cells ⟨p0, p1, p2, p3, p4, .slice pa pn pcap⟩)[j]?) := fun j hj => (hx2.cell (p := ⟨g, o + j, none⟩) (by show g < w2.heap.size; omega)).trans (HP6.out j hj)
    have HRRX := Lib.hid (((HLL.out.node 5 c1 c2 m3 (c4 - 1)).stay HDX.out.bel).mono (M := fun g => (N g ∧ g < w.heap.size) ∨ w.heap.size + 2 ≤ g) (fun g h _ => .inl h))
    clear hW hot hx1 hx2 HB4 HD4 HRD HP6 t0 t1 t2 t3 t4 t5 x0 x1 x2 x3 x4 x5 y0 y1 y2 y3 y4 y5 hz hgs HLL
    refine wpq_region (fun w' => (BoxP w.heap.size ⟨5, c1, c2, c3, c4, .slice (some ⟨g, o, none⟩) 1 lcap⟩ w' ∧ BoxP w2.heap.size ⟨5, c1, c2, m3, c4 - 1, .slice (some ⟨g, o, none⟩) 1 lcap⟩ w') ∧ Hid (∀ j, j < 6 → w'.cell? ⟨g, o + j, none⟩ = (PC.cells ⟨p0, p1, p2, p3, p4, .slice pa pn pcap⟩)[j]?)) 9 (by kernel_rfl) ⟨⟨HDX.out.box, HBX.out⟩, HPX⟩ (fun hHeld => ?_)
    have hbd : Below w5.heap.size w5 w5.drew := below_drewN (Below.refl _ _) 1
    replace HBX := Lib.hid (HBX.out.below hbd)
    replace HDX := Lib.hid (HDX.out.stay hbd)
    replace HRX := Lib.hid (HRX.out.stay hbd)
    replace HRRX := Lib.hid (HRRX.out.stay hbd)
    clear hbd HPX
    generalize w5.drew = wd at *
    refine wpq_take 0 (some 117) [1, 2, 3, 5, 7, 8, 9] rfl rfl (by kernel_rfl) (by kernel_rfl) (by kernel_rfl) (by kernel_rfl) (fun _ _ _ h => h) (Or.inl ⟨by rfl, fun w hSw => by (obtain ⟨x0, x1, x2, x3, x4, x5⟩ := BoxP.cells hSw.1.1; obtain ⟨y0, y1, y2, y3, y4, y5⟩ := BoxP.cells hSw.1.2; obtain ⟨z0, z1, z2, z3, z4, z5⟩ := cells6 hSw.2.out; simp only at x0 x1 x2 x3 x4 x5 y0 y1 y2 y3 y4 y5 z0 z1 z2 z3 z4 z5; go_simp; with_reducible rfl)⟩) hHeld ?_
    simp only [Act.put, List.setIfInBounds_toArray, List.set_cons_zero, List.set_cons_succ]
    refine wpq_take 1 (some 118) [2, 3, 5, 7, 8, 9] rfl rfl (by kernel_rfl) (by kernel_rfl) (by kernel_rfl) (by kernel_rfl) (fun _ _ _ h => h) (Or.inl ⟨by rfl, fun w hSw => by (obtain ⟨x0, x1, x2, x3, x4, x5⟩ := BoxP.cells hSw.1.1; obtain ⟨y0, y1, y2, y3, y4, y5⟩ := BoxP.cells hSw.1.2; obtain ⟨z0, z1, z2, z3, z4, z5⟩ := cells6 hSw.2.out; simp only at x0 x1 x2 x3 x4 x5 y0 y1 y2 y3 y4 y5 z0 z1 z2 z3 z4 z5; go_simp; with_reducible rfl)⟩) hHeld ?_
    simp only [Act.put, List.setIfInBounds_toArray, List.set_cons_zero, List.set_cons_succ]
    refine wpq_take 2 (some 119) [3, 5, 7, 8, 9] rfl rfl (by kernel_rfl) (by kernel_rfl) (by kernel_rfl) (by kernel_rfl) (fun _ _ _ h => h) (Or.inl ⟨by rfl, fun w hSw => by (obtain ⟨x0, x1, x2, x3, x4, x5⟩ := BoxP.cells hSw.1.1; obtain ⟨y0, y1, y2, y3, y4, y5⟩ := BoxP.cells hSw.1.2; obtain ⟨z0, z1, z2, z3, z4, z5⟩ := cells6 hSw.2.out; simp only at x0 x1 x2 x3 x4 x5 y0 y1 y2 y3 y4 y5 z0 z1 z2 z3 z4 z5; go_simp; with_reducible rfl)⟩) hHeld ?_
    simp only [Act.put, List.setIfInBounds_toArray, List.set_cons_zero, List.set_cons_succ]
    refine wpq_take 3 (some 120) [5, 7, 8, 9] rfl rfl (by kernel_rfl) (by kernel_rfl) (by kernel_rfl) (by kernel_rfl) (fun _ _ _ h => h) (Or.inl ⟨by rfl, fun w hSw => by (obtain ⟨x0, x1, x2, x3, x4, x5⟩ := BoxP.cells hSw.1.1; obtain ⟨y0, y1, y2, y3, y4, y5⟩ := BoxP.cells hSw.1.2; obtain ⟨z0, z1, z2, z3, z4, z5⟩ := cells6 hSw.2.out; simp only at x0 x1 x2 x3 x4 x5 y0 y1 y2 y3 y4 y5 z0 z1 z2 z3 z4 z5; go_simp; with_reducible rfl)⟩) hHeld ?_
    simp only [Act.put, List.setIfInBounds_toArray, List.set_cons_zero, List.set_cons_succ]
    refine wpq_take 4 (some 121) [5, 7, 8, 9] rfl rfl (by kernel_rfl) (by kernel_rfl) (by kernel_rfl) (by kernel_rfl) (fun _ _ _ h => h) (Or.inl ⟨by rfl, fun w hSw => by (obtain ⟨x0, x1, x2, x3, x4, x5⟩ := BoxP.cells hSw.1.1; obtain ⟨y0, y1, y2, y3, y4, y5⟩ := BoxP.cells hSw.1.2; obtain ⟨z0, z1, z2, z3, z4, z5⟩ := cells6 hSw.2.out; simp only at x0 x1 x2 x3 x4 x5 y0 y1 y2 y3 y4 y5 z0 z1 z2 z3 z4 z5; go_simp; with_reducible rfl)⟩) hHeld ?_
    simp only [Act.put, List.setIfInBounds_toArray, List.set_cons_zero, List.set_cons_succ]
    refine wpq_take 6 (some 123) [7, 8, 9] rfl rfl (by kernel_rfl) (by kernel_rfl) (by kernel_rfl) (by kernel_rfl) (fun _ _ _ h => h) (Or.inl ⟨by rfl, fun w hSw => by (obtain ⟨x0, x1, x2, x3, x4, x5⟩ := BoxP.cells hSw.1.1; obtain ⟨y0, y1, y2, y3, y4, y5⟩ := BoxP.cells hSw.1.2; obtain ⟨z0, z1, z2, z3, z4, z5⟩ := cells6 hSw.2.out; simp only at x0 x1 x2 x3 x4 x5 y0 y1 y2 y3 y4 y5 z0 z1 z2 z3 z4 z5; go_simp; with_reducible rfl)⟩) hHeld ?_
    simp only [Act.put, List.setIfInBounds_toArray, List.set_cons_zero, List.set_cons_succ]
    refine wpq_one 5 (by kernel_rfl) rfl (fun K hK => ?_)
    go_simp
    refine (HIH.out _ q ⟨p0, p1, p2, p3, p4, .slice pa pn pcap⟩ wd HRX.out HSQ.out HCQ.out).mono ?_
    rintro e w6 ⟨c6, rfl, hq6, hb6⟩
    have hz5 := HDX.out.ret.lt
    have HB6 := Lib.hid (HBX.out.below hb6)
    have HD6 := Lib.hid (HDX.out.stay hb6)
    have HR6 := Lib.hid (HRRX.out.stay hb6)
    have HQ6 := Lib.hid (hq6.mono (M := fun g => (N g ∧ g < w.heap.size) ∨ w.heap.size + 2 ≤ g) (fun g hg _ => by rcases hg with hg | hg; exact .inl hg; exact .inr (by omega)))
    have HP6 : Hid (∀ j, j < 6 → w6.cell? ⟨g, o + j, none⟩ = (PC.cells ⟨p0, p1, p2, p3, p4, .slice pa pn pcap⟩)[j]?) := fun j hj => (hb6.cell (p := ⟨g, o + j, none⟩) (by have := HGS.out; show g < wd.heap.size; omega)).trans (hHeld.2.out j hj)
    generalize hdq : derR b d q = dq at *
    clear hq6 hHeld HBX HDX HRRX HRX hz5
    refine hK.out _ _ ⟨⟨HD6.out.box, HB6.out⟩, HP6⟩ (fun hHeld => ?_)
    clear hK K hHeld
    refine wpq_one 7 (by kernel_rfl) rfl (fun K hK => ?_)
    go_simp
    generalize hW : World.alloc w6 _ = w7
    obtain ⟨ha, -, hz7, hb7⟩ := alloc_of hW
    have hz6 : w.heap.size + 2 ≤ w6.heap.size := HD6.out.ret.lt
    have HL7 := Lib.hid (pair_rd (N := fun g => (N g ∧ g < w.heap.size) ∨ w.heap.size + 2 ≤ g) (m := w6.heap.size) (HQ6.out.stay hb7) (HR6.out.stay hb7) (show w7.heap[w6.heap.size]? = some (.cells (c6.cells ++ PC.cells ⟨5, c1, c2, m3, c4 - 1, .slice (some ⟨g, o, none⟩) 1 lcap⟩).toArray 24 (0, 0)) from ha) (.inr (by omega)))
    have HB7 := Lib.hid (HB6.out.below hb7)
    have HD7 := Lib.hid (HD6.out.stay hb7)
    have HP7 : Hid (∀ j, j < 6 → w7.cell? ⟨g, o + j, none⟩ = (PC.cells ⟨p0, p1, p2, p3, p4, .slice pa pn pcap⟩)[j]?) := fun j hj => (hb7.cell (p := ⟨g, o + j, none⟩) (by have := HGS.out; show g < w6.heap.size; omega)).trans (HP6.out j hj)
    clear hW ha hz7 hb7 hz6 HQ6 HR6 HB6 HD6 HP6
    refine hK.out _ _ ⟨⟨HD7.out.box, HB7.out⟩, HP7⟩ (fun hHeld => ?_)
    clear hK K hHeld
    refine wpq_one 8 (by kernel_rfl) rfl (fun K hK => ?_)
    go_simp
    refine (cat_any _ [dq, .mk 5 c1 c2 m3 (c4 - 1) [q]] _ w7 HL7.out (by simp)).mono ?_
    rintro e w8 ⟨c8, rfl, hq8, hb8⟩
    have hz7 : w.heap.size + 2 ≤ w7.heap.size := HD7.out.ret.lt
    have HD8 := Lib.hid (HD7.out.stay hb8)
    have HB8 := Lib.hid (HB7.out.below hb8)
    have HP8 : Hid (∀ j, j < 6 → w8.cell? ⟨g, o + j, none⟩ = (PC.cells ⟨p0, p1, p2, p3, p4, .slice pa pn pcap⟩)[j]?) := fun j hj => (hb8.cell (p := ⟨g, o + j, none⟩) (by have := HGS.out; show g < w7.heap.size; omega)).trans (HP7.out j hj)
    have HQ8 := Lib.hid (hq8.mono (M := fun g => (N g ∧ g < w.heap.size) ∨ w.heap.size + 2 ≤ g) (fun g hg _ => by rcases hg with hg | hg; exact hg; exact .inr (by omega)))
    obtain ⟨fa, fcap, hfa⟩ := hq8.rd.forms
    rw [← HQ.out] at HQ8
    generalize (catD [dq, .mk 5 c1 c2 m3 (c4 - 1) [q]] []).args.length = fl at *
    obtain ⟨q0, q1, q2, q3, q4, q5⟩ := c8
    simp only at hfa
    subst hfa
    clear hq8 hb8 hz7 hdq HL7 HB7 HD7 HP7
    refine hK.out _ _ ⟨⟨HD8.out.box, HB8.out⟩, HP8⟩ (fun hHeld => ?_)
    clear hK K hHeld HB8 HP8
    refine wpq_end 9 (by kernel_rfl) rfl (by kernel_rfl) (fun K hK => ?_)
    obtain ⟨z0, z1, z2, z3, z4, z5⟩ := HD8.out.ret.cells
    obtain ⟨y0, y1, y2, y3, y4, y5⟩ := HD8.out.ret.free
    simp only at z0 z1 z2 z3 z4 z5
    simp only [aggP]
    go_simp
    generalize hW : World.setCell _ _ _ = w9
    obtain ⟨hbx, hok⟩ := RetP.fin2 (N := N) HD8.out.ret HD8.out.bel HQ8.out hW
    clear hW
    refine hK.out _ _ ?_
    clear hK K
    refine wpq_done (by kernel_rfl) ?_ _
    go_simp
    go_wp2_with fail
    obtain ⟨s0, s1, s2, s3, s4, s5⟩ := hbx.cells
    refine bodyPost_ret (v := aggP ⟨q0, q1, q2, q3, q4, .slice fa fl fcap⟩) (by simp only at s0 s1 s2 s3 s4 s5; simp [results, Tryd.results38, go_sem, s0, s1, s2, s3, s4, s5]; try rfl) rfl ?_
    exact hok
  · have h3 : c4 = -1 := by omega
    subst h3
    have HQ := Lib.hid (show derR b (d + 1) (.mk 5 c1 c2 c3 (-1) [q]) = catD [derR b d q, .mk 5 c1 c2 m3 (-1) [q]] [] from by simp [derR, repD, HMX.out])
    have HBX := HB4
    have HDX := HD4
    have HRX := HRD
    have HPX := HP6
    have HRRX := Lib.hid (((HLL.out.node 5 c1 c2 m3 (-1)).stay HDX.out.bel).mono (M := fun g => (N g ∧ g < w.heap.size) ∨ w.heap.size + 2 ≤ g) (fun g h _ => .inl h))
    clear HB4 HD4 HRD HP6 HLL
    go_upto_region 36 with fail
    refine wpq_region (fun w' => (BoxP w.heap.size ⟨5, c1, c2, c3, (-1), .slice (some ⟨g, o, none⟩) 1 lcap⟩ w' ∧ BoxP w2.heap.size ⟨5, c1, c2, m3, -1, .slice (some ⟨g, o, none⟩) 1 lcap⟩ w') ∧ Hid (∀ j, j < 6 → w'.cell? ⟨g, o + j, none⟩ = (PC.cells ⟨p0, p1, p2, p3, p4, .slice pa pn pcap⟩)[j]?)) 9 (by kernel_rfl) ⟨⟨HDX.out.box, HBX.out⟩, HPX⟩ (fun hHeld => ?_)
    have hbd : Below w4.heap.size w4 w4.drew := below_drewN (Below.refl _ _) 1
    replace HBX := Lib.hid (HBX.out.below hbd)
    replace HDX := Lib.hid (HDX.out.stay hbd)
    replace HRX := Lib.hid (HRX.out.stay hbd)
    replace HRRX := Lib.hid (HRRX.out.stay hbd)
    clear hbd HPX
    generalize w4.drew = wd at *
    refine wpq_take 0 (some 117) [1, 2, 3, 5, 7, 8, 9] rfl rfl (by kernel_rfl) (by kernel_rfl) (by kernel_rfl) (by kernel_rfl) (fun _ _ _ h => h) (Or.inl ⟨by rfl, fun w hSw => by (obtain ⟨x0, x1, x2, x3, x4, x5⟩ := BoxP.cells hSw.1.1; obtain ⟨y0, y1, y2, y3, y4, y5⟩ := BoxP.cells hSw.1.2; obtain ⟨z0, z1, z2, z3, z4, z5⟩ := cells6 hSw.2.out; simp only at x0 x1 x2 x3 x4 x5 y0 y1 y2 y3 y4 y5 z0 z1 z2 z3 z4 z5; go_simp; with_reducible rfl)⟩) hHeld ?_
    simp only [Act.put, List.setIfInBounds_toArray, List.set_cons_zero, List.set_cons_succ]
    refine wpq_take 1 (some 118) [2, 3, 5, 7, 8, 9] rfl rfl (by kernel_rfl) (by kernel_rfl) (by kernel_rfl) (by kernel_rfl) (fun _ _ _ h => h) (Or.inl ⟨by rfl, fun w hSw => by (obtain ⟨x0, x1, x2, x3, x4, x5⟩ := BoxP.cells hSw.1.1; obtain ⟨y0, y1, y2, y3, y4, y5⟩ := BoxP.cells hSw.1.2; obtain ⟨z0, z1, z2, z3, z4, z5⟩ := cells6 hSw.2.out; simp only at x0 x1 x2 x3 x4 x5 y0 y1 y2 y3 y4 y5 z0 z1 z2 z3 z4 z5; go_simp; with_reducible rfl)⟩) hHeld ?_
    simp only [Act.put, List.setIfInBounds_toArray, List.set_cons_zero, List.set_cons_succ]
    refine wpq_take 2 (some 119) [3, 5, 7, 8, 9] rfl rfl (by kernel_rfl) (by kernel_rfl) (by kernel_rfl) (by kernel_rfl) (fun _ _ _ h => h) (Or.inl ⟨by rfl, fun w hSw => by (obtain ⟨x0, x1, x2, x3, x4, x5⟩ := BoxP.cells hSw.1.1; obtain ⟨y0, y1, y2, y3, y4, y5⟩ := BoxP.cells hSw.1.2; obtain ⟨z0, z1, z2, z3, z4, z5⟩ := cells6 hSw.2.out; simp only at x0 x1 x2 x3 x4 x5 y0 y1 y2 y3 y4 y5 z0 z1 z2 z3 z4 z5; go_simp; with_reducible rfl)⟩) hHeld ?_
    simp only [Act.put, List.setIfInBounds_toArray, List.set_cons_zero, List.set_cons_succ]
    refine wpq_take 3 (some 120) [5, 7, 8, 9] rfl rfl (by kernel_rfl) (by kernel_rfl) (by kernel_rfl) (by kernel_rfl) (fun _ _ _ h => h) (Or.inl ⟨by rfl, fun w hSw => by (obtain ⟨x0, x1, x2, x3, x4, x5⟩ := BoxP.cells hSw.1.1; obtain ⟨y0, y1, y2, y3, y4, y5⟩ := BoxP.cells hSw.1.2; obtain ⟨z0, z1, z2, z3, z4, z5⟩ := cells6 hSw.2.out; simp only at x0 x1 x2 x3 x4 x5 y0 y1 y2 y3 y4 y5 z0 z1 z2 z3 z4 z5; go_simp; with_reducible rfl)⟩) hHeld ?_
    simp only [Act.put, List.setIfInBounds_toArray, List.set_cons_zero, List.set_cons_succ]
    refine wpq_take 4 (some 121) [5, 7, 8, 9] rfl rfl (by kernel_rfl) (by kernel_rfl) (by kernel_rfl) (by kernel_rfl) (fun _ _ _ h => h) (Or.inl ⟨by rfl, fun w hSw => by (obtain ⟨x0, x1, x2, x3, x4, x5⟩ := BoxP.cells hSw.1.1; obtain ⟨y0, y1, y2, y3, y4, y5⟩ := BoxP.cells hSw.1.2; obtain ⟨z0, z1, z2, z3, z4, z5⟩ := cells6 hSw.2.out; simp only at x0 x1 x2 x3 x4 x5 y0 y1 y2 y3 y4 y5 z0 z1 z2 z3 z4 z5; go_simp; with_reducible rfl)⟩) hHeld ?_
    simp only [Act.put, List.setIfInBounds_toArray, List.set_cons_zero, List.set_cons_succ]
    refine wpq_take 6 (some 123) [7, 8, 9] rfl rfl (by kernel_rfl) (by kernel_rfl) (by kernel_rfl) (by kernel_rfl) (fun _ _ _ h => h) (Or.inl ⟨by rfl, fun w hSw => by (obtain ⟨x0, x1, x2, x3, x4, x5⟩ := BoxP.cells hSw.1.1; obtain ⟨y0, y1, y2, y3, y4, y5⟩ := BoxP.cells hSw.1.2; obtain ⟨z0, z1, z2, z3, z4, z5⟩ := cells6 hSw.2.out; simp only at x0 x1 x2 x3 x4 x5 y0 y1 y2 y3 y4 y5 z0 z1 z2 z3 z4 z5; go_simp; with_reducible rfl)⟩) hHeld ?_
    simp only [Act.put, List.setIfInBounds_toArray, List.set_cons_zero, List.set_cons_succ]
    refine wpq_one 5 (by kernel_rfl) rfl (fun K hK => ?_)
    go_simp
    refine (HIH.out _ q ⟨p0, p1, p2, p3, p4, .slice pa pn pcap⟩ wd HRX.out HSQ.out HCQ.out).mono ?_
    rintro e w6 ⟨c6, rfl, hq6, hb6⟩
    have hz5 := HDX.out.ret.lt
    have HB6 := Lib.hid (HBX.out.below hb6)
    have HD6 := Lib.hid (HDX.out.stay hb6)
    have HR6 := Lib.hid (HRRX.out.stay hb6)
    have HQ6 := Lib.hid (hq6.mono (M := fun g => (N g ∧ g < w.heap.size) ∨ w.heap.size + 2 ≤ g) (fun g hg _ => by rcases hg with hg | hg; exact .inl hg; exact .inr (by omega)))
    have HP6 : Hid (∀ j, j < 6 → w6.cell? ⟨g, o + j, none⟩ = (PC.cells ⟨p0, p1, p2, p3, p4, .slice pa pn pcap⟩)[j]?) := fun j hj => (hb6.cell (p := ⟨g, o + j, none⟩) (by have := HGS.out; show g < wd.heap.size; omega)).trans (hHeld.2.out j hj)
    generalize hdq : derR b d q = dq at *
    clear hq6 hHeld HBX HDX HRRX HRX hz5
    refine hK.out _ _ ⟨⟨HD6.out.box, HB6.out⟩, HP6⟩ (fun hHeld => ?_)
    clear hK K hHeld
    refine wpq_one 7 (by kernel_rfl) rfl (fun K hK => ?_)
    go_simp
    generalize hW : World.alloc w6 _ = w7
    obtain ⟨ha, -, hz7, hb7⟩ := alloc_of hW
    have hz6 : w.heap.size + 2 ≤ w6.heap.size := HD6.out.ret.lt
    have HL7 := Lib.hid (pair_rd (N := fun g => (N g ∧ g < w.heap.size) ∨ w.heap.size + 2 ≤ g) (m := w6.heap.size) (HQ6.out.stay hb7) (HR6.out.stay hb7) (show w7.heap[w6.heap.size]? = some (.cells (c6.cells ++ PC.cells ⟨5, c1, c2, m3, -1, .slice (some ⟨g, o, none⟩) 1 lcap⟩).toArray 24 (0, 0)) from ha) (.inr (by omega)))
    have HB7 := Lib.hid (HB6.out.below hb7)
    have HD7 := Lib.hid (HD6.out.stay hb7)
    have HP7 : Hid (∀ j, j < 6 → w7.cell? ⟨g, o + j, none⟩ = (PC.cells ⟨p0, p1, p2, p3, p4, .slice pa pn pcap⟩)[j]?) := fun j hj => (hb7.cell (p := ⟨g, o + j, none⟩) (by have := HGS.out; show g < w6.heap.size; omega)).trans (HP6.out j hj)
    clear hW ha hz7 hb7 hz6 HQ6 HR6 HB6 HD6 HP6
    refine hK.out _ _ ⟨⟨HD7.out.box, HB7.out⟩, HP7⟩ (fun hHeld => ?_)
    clear hK K hHeld
    refine wpq_one 8 (by kernel_rfl) rfl (fun K hK => ?_)
    go_simp
    refine (cat_any _ [dq, .mk 5 c1 c2 m3 (-1) [q]] _ w7 HL7.out (by simp)).mono ?_
    rintro e w8 ⟨c8, rfl, hq8, hb8⟩
    have hz7 : w.heap.size + 2 ≤ w7.heap.size := HD7.out.ret.lt
    have HD8 := Lib.hid (HD7.out.stay hb8)
    have HB8 := Lib.hid (HB7.out.below hb8)
    have HP8 : Hid (∀ j, j < 6 → w8.cell? ⟨g, o + j, none⟩ = (PC.cells ⟨p0, p1, p2, p3, p4, .slice pa pn pcap⟩)[j]?) := fun j hj => (hb8.cell (p := ⟨g, o + j, none⟩) (by have := HGS.out; show g < w7.heap.size; omega)).trans (HP7.out j hj)
    have HQ8 := Lib.hid (hq8.mono (M := fun g => (N g ∧ g < w.heap.size) ∨ w.heap.size + 2 ≤ g) (fun g hg _ => by rcases hg with hg | hg; exact hg; exact .inr (by omega)))
    obtain ⟨fa, fcap, hfa⟩ := hq8.rd.forms
    rw [← HQ.out] at HQ8
    generalize (catD [dq, .mk 5 c1 c2 m3 (-1) [q]] []).args.length = fl at *
    obtain ⟨q0, q1, q2, q3, q4, q5⟩ := c8
    simp only at hfa
    subst hfa
    clear hq8 hb8 hz7 hdq HL7 HB7 HD7 HP7
    refine hK.out _ _ ⟨⟨HD8.out.box, HB8.out⟩, HP8⟩ (fun hHeld => ?_)
    clear hK K hHeld HB8 HP8
    refine wpq_end 9 (by kernel_rfl) rfl (by kernel_rfl) (fun K hK => ?_)
    obtain ⟨z0, z1, z2, z3, z4, z5⟩ := HD8.out.ret.cells
    obtain ⟨y0, y1, y2, y3, y4, y5⟩ := HD8.out.ret.free
    simp only at z0 z1 z2 z3 z4 z5
    simp only [aggP]
    go_simp
    generalize hW : World.setCell _ _ _ = w9
    obtain ⟨hbx, hok⟩ := RetP.fin2 (N := N) HD8.out.ret HD8.out.bel HQ8.out hW
    clear hW
    refine hK.out _ _ ?_
    clear hK K
    refine wpq_done (by kernel_rfl) ?_ _
    go_simp
    go_wp2_with fail
    obtain ⟨s0, s1, s2, s3, s4, s5⟩ := hbx.cells
    refine bodyPost_ret (v := aggP ⟨q0, q1, q2, q3, q4, .slice fa fl fcap⟩) (by simp only at s0 s1 s2 s3 s4 s5; simp [results, Tryd.results38, go_sem, s0, s1, s2, s3, s4, s5]; try rfl) rfl ?_
    exact hok

end Go.Proofs.YtggolmamacoplaaDoor

namespace Go.Proofs.YtggolmamacoplaaDoor
open Go.RowKit Go.Shelf
set_option maxHeartbeats 4000000
set_option maxRecDepth 100000

theorem der_all (b : Int) : ∀ d, DerC b d
  | 0 => fun _ p _ _ _ h _ => by cases h
  | d + 1 => by
    intro N p c w hp hsn hcn
    have IH := der_all b d
    obtain ⟨op, lo, hi, mn, mx, l⟩ := p
    have hf := (snd_node hsn).1
    have hop : op = 0 ∨ op = 1 ∨ op = 2 ∨ op = 3 ∨ op = 4 ∨ op = 5 ∨ op = 6 ∨ op = 7 := by
      unfold formR at hf
      split at hf
      · omega
      split at hf
      · omega
      split at hf
      · omega
      split at hf
      · omega
      split at hf
      · omega
      · cases hf
    rcases hop with rfl | rfl | rfl | rfl | rfl | rfl | rfl | rfl
    · exact der_op0 b d N lo hi mn mx l c w hp hsn hcn
    · exact der_op1 b d N lo hi mn mx l c w hp hsn hcn
    · exact der_op2 b d N lo hi mn mx l c w hp hsn hcn
    · exact der_op3 b d IH N lo hi mn mx l c w hp hsn hcn
    · exact der_op4 b d IH N lo hi mn mx l c w hp hsn hcn
    · exact der_op5 b d IH N lo hi mn mx l c w hp hsn hcn
    · exact der_op6 b d IH N lo hi mn mx l c w hp hsn hcn
    · exact der_op7 b d IH N lo hi mn mx l c w hp hsn hcn
/-- What regex.Derive hands back. -/
def RetF (p : RX) (w : World) (e : Ending) (w' : World) : Prop := ∃ c, e = .returned (aggP c) ∧ RdP w' c p ∧ Below w.heap.size w w'
theorem RetF.fin {w0 w w4 : World} {d z : PC} {p : RX} (hx : BoxP (w0.heap.size + 1) z w) (hb : Below w0.heap.size w0 w) (hd : RdQ (fun g => g ≠ w0.heap.size + 1) w d p)
    (he : ((((((w.setCell ⟨w0.heap.size + 1, 0, none⟩ (.int .i64 d.op)).setCell ⟨w0.heap.size + 1, 1, none⟩ (.int .i64 d.lo)).setCell ⟨w0.heap.size + 1, 2, none⟩ (.int .i64 d.hi)).setCell ⟨w0.heap.size + 1, 3, none⟩ (.int .i64 d.mn)).setCell ⟨w0.heap.size + 1, 4, none⟩ (.int .i64 d.mx)).setCell ⟨w0.heap.size + 1, 5, none⟩ d.a) = w4) :
    BoxP (w0.heap.size + 1) d w4 ∧ RetF p w0 (.returned (aggP d)) w4 := by
  obtain ⟨b1, b2⟩ := hx.set he
  have ho := set6_other he
  exact ⟨b1, d, rfl, (hd.keep (w' := w4) (fun x hx _ => ho x hx)).rd, hb.trans (b2.mono (by omega))⟩
theorem Derive_any (p : RX) (b : Int) (c : PC) (w : World) (hp : RdP w c p) (hcn : valR p = true → cntN 48 p ≤ 1000000) (hsz : dervR p b = derR b 48 p → SizeOf.sizeOf (derR b 48 p) < 1000000000) :
    Calls Tryd.prog 18 #[aggP c, .int .i64 b] w (RetF (dervR p b) w) := by
  have HP := Lib.hid hp
  have HCN := Lib.hid hcn
  have HSZ := Lib.hid hsz
  have HV : Hid (valR p = true → sndR 48 p = true) := by
    intro h
    unfold valR at h
    rw [Bool.and_eq_true] at h
    exact h.1
  have HDV : Hid (dervR p b = if valR p = false ∨ b < 0 ∨ 255 < b then nonR else derR b 48 p) := rfl
  obtain ⟨la, lcap, hla⟩ := hp.forms
  obtain ⟨c0, c1, c2, c3, c4, c5⟩ := c
  simp only at hla
  generalize p.args.length = n at *
  subst hla
  simp only [aggP]
  clear hp hcn hsz
  go_enter Tryd.func18, Tryd.ntmps18
  go_upto_region 1 with fail
  generalize hW : World.alloc w _ = w1
  obtain ⟨ha, -, hz1, hb1⟩ := alloc_of hW
  generalize hW2 : World.alloc w1 _ = w2
  obtain ⟨ha2, -, hz2, hb2⟩ := alloc_of hW2
  rw [hz1] at ha2
  have HD := Lib.hid (show DerS ⟨c0, c1, c2, c3, c4, .slice la n lcap⟩ w w2 from ⟨(hb2.block _ (by omega)).trans ha, ha2, hb1.trans (hb2.mono hb1.size)⟩)
  clear hW ha hz1 hb1 hW2 ha2 hz2 hb2
  obtain ⟨t0, t1, t2, t3, t4, t5⟩ := HD.out.box.cells
  simp only at t0 t1 t2 t3 t4 t5
  go_wp2_with fail
  refine (PValid_any p _ w2 (HP.out.stays HD.out.bel)).mono ?_
  rintro e w3 ⟨rfl, hb3⟩
  have HD3 := Lib.hid (HD.out.stay hb3)
  clear hb3 HD t0 t1 t2 t3 t4 t5
  obtain ⟨t0, t1, t2, t3, t4, t5⟩ := HD3.out.box.cells
  simp only at t0 t1 t2 t3 t4 t5
  by_cases hok : valR p = true ∧ ¬ b < 0 ∧ ¬ 255 < b
  case neg =>
    have HQ : Hid (dervR p b = nonR) := by
      unfold Hid
      rw [HDV.out, if_pos]
      by_cases h1 : valR p = true
      · by_cases h2 : b < 0
        · exact .inr (.inl h2)
        · exact .inr (.inr (Classical.byContradiction fun h3 => hok ⟨h1, h2, h3⟩))
      · exact .inl (by simpa using h1)
    obtain ⟨v, hv⟩ : ∃ v, v = valR p := ⟨_, rfl⟩
    rw [← hv] at hok ⊢
    clear hv
    cases v with
    | false =>
      clear hok
      go_wp2_with fail
      refine (none_any w3).mono ?_
      rintro e w8 ⟨rfl, hb8⟩
      have HD8 := Lib.hid (HD3.out.stay hb8)
      clear hb8
      obtain ⟨z0, z1, z2, z3, z4, z5⟩ := HD8.out.ret.cells
      obtain ⟨y0, y1, y2, y3, y4, y5⟩ := HD8.out.ret.free
      simp only at z0 z1 z2 z3 z4 z5
      simp only [aggP, zeroP]
      go_wp2_with fail
      generalize hW : World.setCell _ _ _ = w9
      obtain ⟨hbx, hok⟩ := RetF.fin (d := zeroP 0) HD8.out.ret HD8.out.bel (zero_rd _ 0 _) hW
      obtain ⟨s0, s1, s2, s3, s4, s5⟩ := hbx.cells
      refine bodyPost_ret (v := aggP (zeroP 0)) (by simp only [zeroP] at s0 s1 s2 s3 s4 s5; simp [results, Tryd.results18, go_sem, zeroP, s0, s1, s2, s3, s4, s5]) rfl ?_
      rw [HQ.out]
      exact hok
    | true =>
      by_cases h2 : b < 0
      · clear hok
        go_wp2_with fail
        refine (none_any w3).mono ?_
        rintro e w8 ⟨rfl, hb8⟩
        have HD8 := Lib.hid (HD3.out.stay hb8)
        clear hb8
        obtain ⟨z0, z1, z2, z3, z4, z5⟩ := HD8.out.ret.cells
        obtain ⟨y0, y1, y2, y3, y4, y5⟩ := HD8.out.ret.free
        simp only at z0 z1 z2 z3 z4 z5
        simp only [aggP, zeroP]
        go_wp2_with fail
        generalize hW : World.setCell _ _ _ = w9
        obtain ⟨hbx, hok⟩ := RetF.fin (d := zeroP 0) HD8.out.ret HD8.out.bel (zero_rd _ 0 _) hW
        obtain ⟨s0, s1, s2, s3, s4, s5⟩ := hbx.cells
        refine bodyPost_ret (v := aggP (zeroP 0)) (by simp only [zeroP] at s0 s1 s2 s3 s4 s5; simp [results, Tryd.results18, go_sem, zeroP, s0, s1, s2, s3, s4, s5]) rfl ?_
        rw [HQ.out]
        exact hok
      · have h3 : 255 < b := Classical.byContradiction fun h3 => hok ⟨rfl, h2, h3⟩
        clear hok
        go_wp2_with fail
        refine (none_any w3).mono ?_
        rintro e w8 ⟨rfl, hb8⟩
        have HD8 := Lib.hid (HD3.out.stay hb8)
        clear hb8
        obtain ⟨z0, z1, z2, z3, z4, z5⟩ := HD8.out.ret.cells
        obtain ⟨y0, y1, y2, y3, y4, y5⟩ := HD8.out.ret.free
        simp only at z0 z1 z2 z3 z4 z5
        simp only [aggP, zeroP]
        go_wp2_with fail
        generalize hW : World.setCell _ _ _ = w9
        obtain ⟨hbx, hok⟩ := RetF.fin (d := zeroP 0) HD8.out.ret HD8.out.bel (zero_rd _ 0 _) hW
        obtain ⟨s0, s1, s2, s3, s4, s5⟩ := hbx.cells
        refine bodyPost_ret (v := aggP (zeroP 0)) (by simp only [zeroP] at s0 s1 s2 s3 s4 s5; simp [results, Tryd.results18, go_sem, zeroP, s0, s1, s2, s3, s4, s5]) rfl ?_
        rw [HQ.out]
        exact hok
  case pos =>
    obtain ⟨hv, h2, h3⟩ := hok
    have HQ : Hid (dervR p b = derR b 48 p) := by
      unfold Hid
      rw [HDV.out, if_neg]
      rintro (h | h | h)
      · rw [hv] at h
        cases h
      · exact h2 h
      · exact h3 h
    have HC := Lib.hid (der_all b 48 _ p _ w3 (HP.out.stays HD3.out.bel).q (HV.out hv) (HCN.out hv))
    rw [hv]
    clear hv HCN HV HDV
    go_wp2_with fail
    refine HC.out.mono ?_
    rintro e w4 ⟨c4', rfl, hq4, hb4⟩
    have HD4 := Lib.hid (HD3.out.stay hb4)
    have HCL := Lib.hid (clone_any _ _ c4' w4 (Nat.le_refl _) (HSZ.out HQ.out) hq4.rd)
    rw [← HQ.out] at HCL
    clear hq4 hb4 HC t0 t1 t2 t3 t4 t5 HD3
    go_wp2_with fail
    refine HCL.out.mono ?_
    rintro e w8 ⟨c8, rfl, hq8, hb8⟩
    have HD8 := Lib.hid (HD4.out.stay hb8)
    have hl4 := HD4.out.ret.lt
    have HQ8 := Lib.hid (hq8.mono (M := fun g => g ≠ w.heap.size + 1) (fun g hg _ => by omega))
    obtain ⟨fa, fcap, hfa⟩ := hq8.rd.forms
    generalize (dervR p b).args.length = fl at *
    obtain ⟨q0, q1, q2, q3, q4, q5⟩ := c8
    simp only at hfa
    subst hfa
    simp only [aggP]
    clear hq8 hb8 hl4
    obtain ⟨z0, z1, z2, z3, z4, z5⟩ := HD8.out.ret.cells
    obtain ⟨y0, y1, y2, y3, y4, y5⟩ := HD8.out.ret.free
    simp only at z0 z1 z2 z3 z4 z5
    go_wp2_with fail
    generalize hW : World.setCell _ _ _ = w9
    obtain ⟨hbx, hok⟩ := RetF.fin HD8.out.ret HD8.out.bel HQ8.out hW
    obtain ⟨s0, s1, s2, s3, s4, s5⟩ := hbx.cells
    refine bodyPost_ret (v := aggP ⟨q0, q1, q2, q3, q4, .slice fa fl fcap⟩) (by simp only at s0 s1 s2 s3 s4 s5; simp [results, Tryd.results18, go_sem, s0, s1, s2, s3, s4, s5]; try rfl) rfl ?_
    exact hok
end Go.Proofs.YtggolmamacoplaaDoor
