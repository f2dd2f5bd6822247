/- The law PathJoins walked. Conditions: the variables of strconv and math/bits read as laid. -/
import Derived.Test.YtjbhjnelepbkcaaDoorLv
import Derived.Test.YtjbhjnelepbkcaaDoorPj1
namespace Go.Proofs.YtjbhjnelepbkcaaDoor
open Go.RowKit Go.Shelf
set_option maxHeartbeats 2000000
set_option maxRecDepth 100000

/-- The block g has N cells that can be written. -/
def Room (w : World) (v : Value) (base n : Nat) : Prop := v = .slice none 0 0 ∧ n = 0 ∨ ∃ g cap, v = .slice (some ⟨g, 0, none⟩) n cap ∧ base ≤ g ∧ n ≤ cap ∧ ∀ k, k < n * 3 → (w.cell? ⟨g, k, none⟩).isSome = true ∧ w.frozen? ⟨g, k, none⟩ = false
theorem Room.of_own {w : World} {base n : Nat} {e : TypeId} {v : Value} {xs : List Value} (h : w.ownsRow base e 3 v n xs) : Room w v base n := by
  rcases h.2 with h0 | ⟨g, cap, cur, rfl, hb, hh, hn, hc, hsz, ht⟩
  · exact .inl h0
  · refine .inr ⟨g, cap, rfl, hb, hn, fun k hk => ⟨?_, ?_⟩⟩
    · rw [World.ownsRow.cellAt h k hk]
      rw [List.getElem?_eq_getElem (by rw [h.1]; exact hk)]
      rfl
    · exact World.ownsRow.frozenAt h k
theorem Room.set {w : World} {base n : Nat} {v : Value} (h : Room w v base n) (p : Addr) (u : Value) : Room (w.setCell p u) v base n := by
  rcases h with h | ⟨g, cap, hv, hb1, hn, hc⟩
  · exact .inl h
  · refine .inr ⟨g, cap, hv, hb1, hn, fun k hk => ?_⟩
    obtain ⟨h1, h2⟩ := hc k hk
    refine ⟨?_, by rw [World.frozen?_setCell]; exact h2⟩
    by_cases hp : p = ⟨g, k, none⟩
    · subst hp
      rw [World.cell?_setCell_same' _ _ _ h1]
      rfl
    · rw [World.cell?_setCell_other _ _ _ _ hp]
      exact h1
theorem JoinsL_any (v u : Value) (l m : List St) (w : World) (hv : Rd w v l) (hu : Rd w u m) (he : Env w) :
    Calls Tryd.prog 6 #[v, u] w fun e w' => e = .returned (.bool true) ∧ Below w.heap.size w w' := by
  have HV := Lib.hid hv
  have HU := Lib.hid hu
  have HE := Lib.hid he
  clear hv hu he
  have HVL := Lib.hid (fun w' (h : Rd w' v l) => RValid_any v l w' h)
  have HVU := Lib.hid (fun w' (h : Rd w' u m) => RValid_any u m w' h)
  cases hl : validP l
  case false =>
    rw [hl] at HVL
    clear hl
    go_enter Tryd.func6, Tryd.ntmps6
    go_wp2_with fail
    refine (HVL.out w HV.out).mono ?_
    rintro e w1 ⟨rfl, hb1⟩
    go_wp2_with fail
    refine (lives_any w1 (HE.out.below hb1)).mono ?_
    rintro e w2 ⟨rfl, hb2⟩
    go_wp2_with fail
    go_ret
    exact ⟨rfl, hb1.trans (hb2.mono hb1.size)⟩
  cases hm : validP m
  case false =>
    rw [hl] at HVL
    rw [hm] at HVU
    clear hl hm
    go_enter Tryd.func6, Tryd.ntmps6
    go_wp2_with fail
    refine (HVL.out w HV.out).mono ?_
    rintro e w1 ⟨rfl, hb1⟩
    go_wp2_with fail
    refine (HVU.out w1 (HU.out.below hb1)).mono ?_
    rintro e w2 ⟨rfl, hb2⟩
    have hbw2 := hb1.trans (hb2.mono hb1.size)
    clear hb1 hb2
    go_wp2_with fail
    refine (lives_any w2 (HE.out.below hbw2)).mono ?_
    rintro e w3 ⟨rfl, hb3⟩
    go_wp2_with fail
    go_ret
    exact ⟨rfl, hbw2.trans (hb3.mono hbw2.size)⟩
  have hl48 : l.length ≤ 48 := (all_ok hl).2
  have hm48 : m.length ≤ 48 := (all_ok hm).2
  rw [hl] at HVL
  rw [hm] at HVU
  clear hl hm
  have HPJ := Lib.hid (fun w' (h1 : Rd w' v l) (h2 : Rd w' u m) => PJoin_any v u l m w' h1 h2 (by omega) (by omega))
  have HRJ := Lib.hid (fun w' (h1 : Rd w' v l) (h2 : Rd w' u m) => RJoin_any v u l m w' h1 h2 (by omega) (by omega))
  have HPP := Lib.hid (fun w' (h1 : Rd w' v l) => PParent_any v l w' h1 (by omega))
  have HRP := Lib.hid (fun w' (h1 : Rd w' v l) => RParent_any v l w' h1 (by omega))
  obtain ⟨B, hB⟩ : ∃ B, ParT l = .bool B := ⟨_, rfl⟩
  rw [hB] at HPP HRP
  have hlm : (l ++ m).length ≤ 96 := by rw [List.length_append]; omega
  obtain ⟨q, hq⟩ : ∃ q, q = l ++ m := ⟨_, rfl⟩
  rw [← hq] at HPJ HRJ hlm
  have eB : (B != B) = false := by cases B <;> rfl
  clear hB hq
  go_enter Tryd.func6, Tryd.ntmps6
  go_wp2_with fail
  refine (HVL.out w HV.out).mono ?_
  rintro e w1 ⟨rfl, hb1⟩
  go_wp2_with fail
  refine (HVU.out w1 (HU.out.below hb1)).mono ?_
  rintro e w2 ⟨rfl, hb2⟩
  have hbw2 := hb1.trans (hb2.mono hb1.size)
  clear hb1 hb2
  go_wp2_with fail
  refine (HPJ.out w2 (HV.out.below hbw2) (HU.out.below hbw2)).mono ?_
  rintro e w3 ⟨vj, rfl, hown3, hb3⟩
  have hbw3 := hbw2.trans (hb3.mono hbw2.size)
  have hown3 := own_low hown3 hbw2.size
  clear hb3 hbw2
  go_wp2_with fail
  refine (HPP.out w3 (HV.out.below hbw3)).mono ?_
  rintro e w4 ⟨vp, rfl, hp4, hb4⟩
  have hbw4 := hbw3.trans (hb4.mono hbw3.size)
  have hown4 := own_below hown3 hb4
  clear hb4 hbw3 hown3
  have HP4 := Lib.hid hp4; clear hp4
  go_wp2_with fail
  refine (HRP.out w4 (HV.out.below hbw4)).mono ?_
  rintro e w5 ⟨vr, rfl, hr5, hb5⟩
  have hbw5 := hbw4.trans (hb5.mono hbw4.size)
  have hown5 := own_below hown4 hb5
  have HP5 := Lib.hid (HP4.out.below hb5)
  have HR5 := Lib.hid hr5
  clear hb5 hbw4 hown4 HP4 hr5
  go_wp2_with fail
  refine (HRJ.out w5 (HV.out.below hbw5) (HU.out.below hbw5)).mono ?_
  rintro e w6 ⟨vk, rfl, hown6, hb6⟩
  have hbw6 := hbw5.trans (hb6.mono hbw5.size)
  have hownj6 := own_below hown5 hb6
  have HP6 := Lib.hid (HP5.out.below hb6)
  have HR6 := Lib.hid (HR5.out.below hb6)
  have HK6 := Lib.hid (Rd.of_own hown6)
  have HJ6 := Lib.hid (Rd.of_own hownj6)
  clear hb6 hbw5 hown5 HP5 HR5 hown6
  go_wp2_with fail
  refine (REqual_any vj vk q q w6 HJ6.out HK6.out).mono ?_
  rintro e w7 ⟨rfl, hb7⟩
  rw [decide_eq_true (rfl : q = q)]
  have hbw7 := hbw6.trans (hb7.mono hbw6.size)
  have hownj7 := own_below hownj6 hb7
  have HP7 := Lib.hid (HP6.out.below hb7)
  have HR7 := Lib.hid (HR6.out.below hb7)
  clear hb7 hbw6 hownj6 HP6 HR6 HK6 HJ6
  go_wp2_with fail
  refine (REqual_any vp vr _ _ w7 HP7.out HR7.out).mono ?_
  rintro e w8 ⟨rfl, hb8⟩
  rw [decide_eq_true (rfl : l.dropLast = l.dropLast)]
  have hbw8 := hbw7.trans (hb8.mono hbw7.size)
  have hownj8 := own_below hownj7 hb8
  have hroom := Room.of_own hownj8
  clear hb8 hbw7 hownj7 HP7 HR7 hownj8
  have HRM := Lib.hid hroom
  obtain ⟨A, cap, rfl⟩ : ∃ A cap, vj = .slice A q.length cap := by
    rcases hroom with ⟨rfl, h0⟩ | ⟨g, cap, rfl, _⟩
    · exact ⟨none, 0, by rw [h0]⟩
    · exact ⟨_, _, rfl⟩
  clear hroom
  go_wp2_with fail
  go_loopw [10] (fun i wr => ∃ k : Nat, k ≤ q.length ∧ i = .int .i64 k ∧ Hid (Room wr (.slice A q.length cap) w.heap.size q.length) ∧ Below w.heap.size w wr) (fun i _ => q.length - (intOf i).toNat)
  case atStart => exact ⟨0, Nat.zero_le _, rfl, HRM.out, hbw8⟩
  case round =>
    clear HRM hbw8
    obtain ⟨k, hk, rfl, HRR, hbw⟩ := hrel
    by_cases hlt : k < q.length
    · obtain ⟨g, cap', hv', hbg, hcap, hc⟩ : ∃ g cap', Value.slice A q.length cap = .slice (some ⟨g, 0, none⟩) q.length cap' ∧ w.heap.size ≤ g ∧ q.length ≤ cap' ∧ ∀ k, k < q.length * 3 → (wr.cell? ⟨g, k, none⟩).isSome = true ∧ wr.frozen? ⟨g, k, none⟩ = false := by
        rcases HRR.out with ⟨_, h0⟩ | h
        · omega
        · exact h
      simp only [Value.slice.injEq, true_and] at hv'
      obtain ⟨rfl, rfl⟩ := hv'
      obtain ⟨x0, hc0⟩ := Option.isSome_iff_exists.1 (hc (k * 3) (by omega)).1
      obtain ⟨x1, hc1⟩ := Option.isSome_iff_exists.1 (hc (k * 3 + 1) (by omega)).1
      obtain ⟨x2, hc2⟩ := Option.isSome_iff_exists.1 (hc (k * 3 + 2) (by omega)).1
      have hf0 := (hc (k * 3) (by omega)).2
      have hf1 := (hc (k * 3 + 1) (by omega)).2
      have hf2 := (hc (k * 3 + 2) (by omega)).2
      clear hc
      go_wp2_with fail
      exact ⟨⟨k + 1, by omega, rfl, ((HRR.out.set _ _).set _ _).set _ _, ((hbw.setCell (p := ⟨g, k * 3, none⟩) hbg _).setCell (p := ⟨g, k * 3 + 1, none⟩) hbg _).setCell (p := ⟨g, k * 3 + 2, none⟩) hbg _⟩, by simp [intOf]; omega⟩
    · go_wp2_with fail
      refine (HPJ.out wr (HV.out.below hbw) (HU.out.below hbw)).mono ?_
      rintro e w9 ⟨vj2, rfl, hown9, hb9⟩
      have hbw9 := hbw.trans (hb9.mono hbw.size)
      clear hb9 hbw
      have HQ9 := Lib.hid (Rd.of_own hown9)
      clear hown9
      go_wp2_with fail
      refine (HRJ.out w9 (HV.out.below hbw9) (HU.out.below hbw9)).mono ?_
      rintro e w10 ⟨vk2, rfl, hown10, hb10⟩
      have hbw10 := hbw9.trans (hb10.mono hbw9.size)
      have HQ10 := Lib.hid (HQ9.out.below hb10)
      have HK10 := Lib.hid (Rd.of_own hown10)
      clear hb10 hown10 hbw9 HQ9
      go_wp2_with fail
      refine (REqual_any vj2 vk2 q q w10 HQ10.out HK10.out).mono ?_
      rintro e w11 ⟨rfl, hb11⟩
      rw [decide_eq_true (rfl : q = q)]
      have hbw11 := hbw10.trans (hb11.mono hbw10.size)
      clear hb11 hbw10 HQ10 HK10
      go_wp2_with fail
      refine (lives_any w11 (HE.out.below hbw11)).mono ?_
      rintro e w12 ⟨rfl, hb12⟩
      go_wp2_with fail
      go_ret
      exact ⟨rfl, hbw11.trans (hb12.mono hbw11.size)⟩
end Go.Proofs.YtjbhjnelepbkcaaDoor
