/- value.key, keys walked; a map from strings to bools that the call makes. Conditions: keys of at most 10^9 bytes. -/
import Derived.Test.YthdninnjjmhpfaaGreatDoorTn
import Derived.Test.YthdninnjjmhpfaaGreatDoorLd
import Derived.Test.YthdninnjjmhpfaaGreatDoorPv1
import Derived.Maps.Views
namespace Go.Proofs.YthdninnjjmhpfaaGreatDoor
open Go.RowKit Go.Maps
set_option maxHeartbeats 4000000
set_option maxRecDepth 100000

/-! Maps whose elements are bools. -/
theorem plainElem_bool_inv {H : Type} {P : Program} {e : TypeId} (he : P.underlying e = some .bool) {v : Value} {z : DataW H × List MemPlace} (h : plainElem P e v = some z) : ∃ x, v = .bool x ∧ z = (.lit (.bool x), []) := by
  unfold plainElem at h
  rw [he] at h
  cases v <;> simp at h
  exact ⟨_, rfl, h.symm⟩
theorem wpList_lookup_own_bool {H : Type} {P : Program} (w : World) {ops : Array Oper} {rest : List Oper} {o : Oper} {a : Act} {Q : Exit → Act → World → Prop}
    (hg : o.guard = none) {m x : Operand} {t : TypeId} (hop : o.op = Op.lookup t m x false)
    {k e : TypeId} (K : Keyed P k) (ht : P.underlying t = some (.map k e)) (he : P.underlying e = some .bool) (hz : (zeroValue e).run P w = .ok (.bool false) w) {b n : Nat} {D : DataW H}
    (hm : a.eval m = .map (some b)) (hown : w.ownsMap P k (plainElem P e) b n D) {key : Value} {kl : Lit} (hx : a.eval x = key) (hkey : keyOf P k key = some kl) (r : Bool) (hr : D.atKey kl (.lit (.bool false)) = .lit (.bool r))
    (hK : wpList P ops Q rest (a.put o.dst (.bool r)) w) :
    wpList P ops Q (o :: rest) a w := by
  refine wpList_plain hg fun K' hK' => ?_
  obtain ⟨v, ps, hrun, hv⟩ := hown.lookup K ht hz (plainElem_bool he false) hkey
  obtain ⟨y, rfl, hy⟩ := plainElem_bool_inv he hv
  simp only [Prod.mk.injEq] at hy
  have hyr : y = r := by
    have := hy.1.symm.trans hr
    simpa using this
  subst hyr
  have hk := hK' _ _ hK
  unfold Oper.wp
  simp [execOp, hop, hm, hx, hrun, Result.andThen]
  exact hk
theorem keyedS : Keyed Tryz.prog 9 := string_keyed Tryz.underlying9
theorem zeroBool (w : World) : (zeroValue 4).run Tryz.prog w = .ok (.bool false) w := by kernel_rfl
def keyL (s : ByteArray) : Lit := .string s.data.toList
theorem keyL_inj {s t : ByteArray} (h : keyL s = keyL t) : L s = L t := by
  unfold keyL at h
  injection h
/-- The map holds the keys seen. -/
structure Seen (D : DataW Unit) (ks : List ByteArray) : Prop where
  isMap : IsMap D
  at_ : ∀ s : ByteArray, D.atKey (keyL s) (.lit (.bool false)) = .lit (.bool (ks.any (fun x => decide (L x = L s))))
theorem Seen.nil : Seen (.map []) [] := ⟨isMap_empty, fun _ => rfl⟩
theorem Seen.push {D : DataW Unit} {ks : List ByteArray} (h : Seen D ks) (k : ByteArray) : Seen (D.put (keyL k) (.lit (.bool true))) (ks ++ [k]) := by
  refine ⟨h.isMap.put _ _, fun s => ?_⟩
  rw [List.any_append]
  by_cases he : L k = L s
  · have : keyL s = keyL k := by unfold keyL; exact congrArg Lit.string he.symm
    rw [this, atKey_put_same h.isMap (show WideAt.IsKeyLit (keyL k) from trivial)]
    simp [he]
  · rw [atKey_put_other (fun hh => he (keyL_inj hh).symm), h.at_]
    simp [he]
theorem alloc_of' {w w1 : World} {X : Obj} (hW : w.alloc X = w1) : w1.heap[w.heap.size]? = some X ∧ (∀ b, b < w.heap.size → w1.heap[b]? = w.heap[b]?) ∧ w1.heap.size = w.heap.size + 1 ∧ Below w.heap.size w w1 := by
  subst hW
  exact ⟨heap_alloc_new w _, fun b hb => heap_alloc_old w _ hb, by simp, (Below.refl _ _).alloc (Nat.le_refl _) _⟩
/-! value.key. -/
def keyE (k : ByteArray) : Nat := if validL (L k) = false then 5 else if 1024 < k.size then 10 else 0
theorem keysE_key (ks : List ByteArray) (k : Nat) (h : k < ks.length) : keysE (ks.take k) (ks.drop k) = if keyE ks[k] ≠ 0 then keyE ks[k] else if (ks.take k).any (fun x => decide (L x = L ks[k])) = true then 8 else keysE (ks.take (k + 1)) (ks.drop (k + 1)) := by
  rw [keysE_drop ks k h]
  unfold keyE
  split
  · simp
  split
  · simp
  · simp
theorem key_any (s : ByteArray) (w : World) (hs : s.size ≤ 1000000000) :
    Calls Tryz.prog 151 #[.string s] w fun e w' => e = .returned (.int .i64 (keyE s : Nat)) ∧ Below w.heap.size w w' := by
  have HV := Lib.hid (fun w => Valid_any s w (by omega))
  obtain ⟨r, hr⟩ : ∃ r, r = keyE s := ⟨_, rfl⟩
  rw [← hr]
  unfold keyE at hr
  have HR := Lib.hid hr; clear hr
  generalize validL (L s) = q at *
  cases q with
  | false =>
    have HF := Lib.hid (HR.out.trans (if_pos rfl))
    clear HR
    go_enter Tryz.func151, Tryz.ntmps151
    go_wp2_with fail
    refine (HV.out _).mono ?_
    rintro e w1 ⟨rfl, rfl⟩
    go_wp2_with fail
    go_ret
    exact ⟨ri (by rw [HF.out]; rfl), Below.refl _ _⟩
  | true =>
    have HR2 := Lib.hid (HR.out.trans (if_neg (by decide)))
    clear HR
    by_cases h1 : 1024 < s.size
    · have HF := Lib.hid (HR2.out.trans (if_pos h1))
      have hi : (1024 : Int) < s.size := by omega
      clear HR2 h1
      go_enter Tryz.func151, Tryz.ntmps151
      go_wp2_with fail
      refine (HV.out _).mono ?_
      rintro e w1 ⟨rfl, rfl⟩
      go_wp2_with fail
      go_ret
      exact ⟨ri (by rw [HF.out]; rfl), Below.refl _ _⟩
    · have HF := Lib.hid (HR2.out.trans (if_neg h1))
      have hi : ¬ (1024 : Int) < s.size := by omega
      clear HR2 h1
      go_enter Tryz.func151, Tryz.ntmps151
      go_wp2_with fail
      refine (HV.out _).mono ?_
      rintro e w1 ⟨rfl, rfl⟩
      go_wp2_with fail
      go_ret
      exact ⟨ri (by rw [HF.out]; rfl), Below.refl _ _⟩
theorem stF : StT Tryz.prog 67 14 := ⟨by kernel_rfl, by kernel_rfl⟩
theorem keys_any (v : Value) (ks : List ByteArray) (cc : Nat → List Value) (w : World) (hs : Sl w v ks.length 14 cc) (hn : ks.length ≤ 1000000) (hc : ∀ i (hi : i < ks.length), (cc i)[0]? = some (.string ks[i]) ∧ (cc i).length = 14 ∧ ∀ u ∈ cc i, u.oneCell' = true) (hz : ∀ i (hi : i < ks.length), ks[i].size ≤ 1000000000) :
    Calls Tryz.prog 117 #[v] w fun e w' => e = .returned (.int .i64 (keysE [] ks)) ∧ Below w.heap.size w w' := by
  obtain ⟨a, cap, rfl, h1, ⟨h2, _⟩, h3, h4⟩ := hs
  have HA := Lib.hid h4
  have HC := Lib.hid hc
  have HZ := Lib.hid hz
  clear h4 hc hz h3
  obtain ⟨r, hr⟩ : ∃ r, r = keysE [] ks := ⟨_, rfl⟩
  rw [← hr]
  have HR := Lib.hid hr; clear hr
  have hmm := @run_makeMap Tryz.prog
  go_enter Tryz.func117, Tryz.ntmps117
  go_wp2_with fail
  clear hmm
  go_loopw [10] (fun i wr => ∃ (k : Nat) (D : DataW Unit), k ≤ ks.length ∧ i = .int .i64 k ∧ Hid (r = keysE (ks.take k) (ks.drop k)) ∧ Seen D (ks.take k) ∧ wr.ownsMap Tryz.prog 9 (plainElem Tryz.prog 4) w.heap.size k D ∧ Below w.heap.size w wr) (fun i _ => ks.length - (intOf i).toNat)
  case atStart => exact ⟨0, .map [], Nat.zero_le _, rfl, HR.out, Seen.nil, World.ownsMap_made _ _ _ _, (Below.refl _ _).alloc (Nat.le_refl _) _⟩
  case round =>
    clear HR
    obtain ⟨k, D, hk, rfl, HR, hD, hown, hbw⟩ := hrel
    by_cases hlt : k < ks.length
    case neg =>
      have HF : Hid (r = 0) := by unfold Hid; rw [HR.out, List.drop_of_length_le (by omega), keysE]
      clear HR hD hown
      go_wp2_with fail
      go_ret
      exact ⟨ri (by rw [HF.out]; rfl), hbw⟩
    obtain ⟨g, o, rfl, hg, hat⟩ := HA.out (by omega)
    have HAT := Lib.hid (fun j hj => (hbw.cell hg).trans (hat k hlt j hj))
    obtain ⟨hc0, hcl, hc1⟩ := HC.out k hlt
    have HC0 := Lib.hid hc0
    have HCL := Lib.hid hcl
    have HC1 := Lib.hid hc1
    have HS := Lib.hid (HR.out.trans (keysE_key ks k hlt))
    have HK := Lib.hid (fun w => key_any ks[k] w (HZ.out k hlt))
    have HT := Lib.hid (List.take_succ_eq_append_getElem hlt)
    have HDA := Lib.hid (hD.at_ ks[k])
    have hkey := Go.WideMaps.keyOf_string_mk (P := Tryz.prog) (k := 9) Tryz.underlying9 (s := ks[k]) (by have := HZ.out k hlt; unfold maxLen; omega)
    have HKEY := Lib.hid hkey
    have HD := Lib.hid hD
    have HOWN := Lib.hid hown
    have HBW := Lib.hid hbw
    have hbz := hown.lt
    clear HR hat hc0 hcl hc1 hD hown hkey hbw
    generalize cc k = cs at *
    generalize hky : ks[k] = key at *
    clear hky
    go_wp2_with (first
      | refine wpl_load rfl rfl stF rfl HCL.out HAT.out ?_
      | (refine wpl_new rfl rfl stF rfl (cs := cs) rfl HCL.out HC1.out rfl rfl rfl ?_; generalize hW1 : World.alloc wr _ = w1; obtain ⟨ha1, hk1, hz1, hb1⟩ := alloc_of' hW1; have HX1 := Lib.hid ha1; have HB1 := Lib.hid hb1; have HZ1 := Lib.hid hz1; have x0 : w1.cell? ⟨wr.heap.size, 0, none⟩ = some (.string key) := (cell_of_row _ _ _ _ _ _ ha1).trans ((List.getElem?_toArray).trans HC0.out); clear hW1 ha1 hk1 hz1 hb1))
    refine (HK.out _).mono ?_
    rintro e w2 ⟨rfl, hb2⟩
    have hz2 := hb2.size
    rw [HZ1.out] at hz2
    have hbw2 : Below w.heap.size w w2 := HBW.out.trans ((HB1.out.trans (hb2.mono (by rw [HZ1.out]; omega))).mono (by omega))
    have x1 : w2.cell? ⟨wr.heap.size, 0, none⟩ = some (.string key) := (hb2.cell (p := ⟨wr.heap.size, 0, none⟩) (by show wr.heap.size < _; rw [HZ1.out]; omega)).trans x0
    have hown2 := HOWN.out.kept (grown_of_below (HB1.out.trans (hb2.mono (by rw [HZ1.out]; omega))) none) (by simp)
    have HOWN2 := Lib.hid hown2
    have HBW2 := Lib.hid hbw2
    have HZ2 := Lib.hid hz2
    clear x0 hb2 hz2 hbw2 hown2 HOWN HBW HX1 HB1 HZ1 HK HAT HCL HC1 HC0
    by_cases h0 : keyE key = 0
    case neg =>
      have HF := Lib.hid (HS.out.trans (if_pos h0))
      have hq : ((keyE key : Int) != 0) = true := by rw [bne_iff_ne]; omega
      clear HS h0
      generalize keyE key = n0 at *
      go_wp2_with fail
      go_ret
      exact ⟨ri (by rw [HF.out]), HBW2.out⟩
    have HS2 := Lib.hid (HS.out.trans (if_neg (by simpa using h0)))
    rw [h0]
    clear HS h0
    generalize hq : (ks.take k).any (fun x => decide (L x = L key)) = q at *
    clear hq
    cases q with
    | true =>
      have HF := Lib.hid (HS2.out.trans (if_pos rfl))
      clear HS2
      go_wp2_with (refine wpList_lookup_own_bool _ rfl rfl keyedS Tryz.underlying163 Tryz.underlying4 (zeroBool _) rfl HOWN2.out rfl HKEY.out true HDA.out ?_)
      go_ret
      exact ⟨ri (by rw [HF.out]; rfl), HBW2.out⟩
    | false =>
      have HF := Lib.hid (HS2.out.trans (if_neg (by decide)))
      clear HS2
      go_wp2_with (first
        | refine wpList_lookup_own_bool _ rfl rfl keyedS Tryz.underlying163 Tryz.underlying4 (zeroBool _) rfl HOWN2.out rfl HKEY.out false HDA.out ?_
        | (at_mapUpdate; refine wpList_mapUpdate_own _ rfl _ _ _ 163 rfl 9 4 keyedS Tryz.underlying163 _ w.heap.size k D rfl HOWN2.out (by unfold maxLen; omega) _ _ _ rfl rfl HKEY.out _ [] (plainElem_bool Tryz.underlying4 true) ?_; intro w3 hown3 hg3; have HN3 := Lib.hid hown3; have HB3 := Lib.hid (HBW2.out.grown hg3 HBW2.out.size (fun j hj => by cases hj; exact Nat.le_refl _)); clear hown3 hg3))
      exact ⟨⟨k + 1, _, by omega, rfl, HF.out, by rw [HT.out]; exact HD.out.push key, HN3.out, HB3.out⟩, by simp [intOf]; omega⟩
end Go.Proofs.YthdninnjjmhpfaaGreatDoor
