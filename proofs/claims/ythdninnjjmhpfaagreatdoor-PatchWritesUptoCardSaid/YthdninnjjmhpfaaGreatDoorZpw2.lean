/- datakitref08.Text walked: one, Text. Conditions: valid paths. -/
import Derived.Test.YthdninnjjmhpfaaGreatDoorTs
import Derived.Test.YthdninnjjmhpfaaGreatDoorRf3c
import Derived.Test.YthdninnjjmhpfaaGreatDoorTd
import Derived.Test.YthdninnjjmhpfaaGreatDoorVd1
import Derived.Test.YthdninnjjmhpfaaGreatDoorTn
import Derived.RegionTactic
import Derived.BigRegion
import Derived.Test.YthdninnjjmhpfaaGreatDoorPv6
import Derived.Test.YthdninnjjmhpfaaGreatDoorShelf
import Derived.LoopN
import Derived.Handy
import Derived.Lib.SmallJoins
import Derived.Test.YthdninnjjmhpfaaGreatDoorZpw1
import Derived.Deep.RegionHeld3
import Derived.Test.YthdninnjjmhpfaaGreatDoorPa1
namespace Go.Proofs.YthdninnjjmhpfaaGreatDoor
open Go.RowKit
set_option maxHeartbeats 4000000
set_option maxRecDepth 100000

/-- The digits of a number, the last first. -/
def digQ (n : Nat) : List UInt8 := if h : n = 0 then [] else UInt8.ofNat (48 + n % 10) :: digQ (n / 10)
termination_by n
decreasing_by omega
def numL (n : Nat) : List UInt8 := (digQ n).reverse
theorem digQ_pos (n : Nat) (h : 0 < n) : digQ n = UInt8.ofNat (48 + n % 10) :: digQ (n / 10) := by
  rw [digQ, dif_neg (by omega)]
theorem digQ_zero : digQ 0 = [] := by rw [digQ, dif_pos rfl]
theorem numL_pos (n : Nat) (h : 0 < n) : numL n = numL (n / 10) ++ [UInt8.ofNat (48 + n % 10)] := by
  unfold numL
  rw [digQ_pos n h, List.reverse_cons]
theorem digQ_len : ∀ (k n : Nat), n < 10 ^ k → (digQ n).length ≤ k
  | 0, n, h => by
    have : n = 0 := by simpa using h
    rw [this, digQ_zero]
    exact Nat.le_refl _
  | k + 1, n, h => by
    rcases Nat.eq_zero_or_pos n with rfl | hp
    · rw [digQ_zero]; exact Nat.zero_le _
    · rw [digQ_pos n hp, List.length_cons]
      have := digQ_len k (n / 10) (by rw [Nat.pow_succ] at h; omega)
      omega
theorem FromInt1_any (n0 : Nat) (w : World) (hn0 : n0 < 1000000000000000) :
    Calls Tryz.prog 155 #[.int .i64 n0] w fun e w' => e = .returned (.string ⟨(numL n0).toArray⟩) ∧ Below w.heap.size w w' := by
  have hl : (numL n0).length ≤ 15 := by unfold numL; rw [List.length_reverse]; exact digQ_len 15 n0 hn0
  have HL := Lib.hid hl
  clear hl
  go_enter Tryz.func155, Tryz.ntmps155
  go_wp2_with fail
  go_loopw [0, 3] (fun nv sv wr => ∃ (n : Nat) (s : ByteArray), n ≤ n0 ∧ nv = .int .i64 n ∧ sv = .string s ∧ Hid (numL n0 = numL n ++ L s) ∧ Below w.heap.size w wr) (fun nv _ _ => (intOf nv).toNat)
  case atStart => exact ⟨n0, ⟨#[]⟩, Nat.le_refl _, rfl, rfl, by unfold Hid; show _ = _ ++ []; rw [List.append_nil], Below.refl _ _⟩
  case round =>
    obtain ⟨n, s, hn, rfl, rfl, HC, hbw⟩ := hrel
    rcases Nat.eq_zero_or_pos n with rfl | hp
    · have HF : Hid (s = ⟨(numL n0).toArray⟩) := by
        unfold Hid
        refine L_inj ?_
        rw [HC.out]
        unfold numL
        rw [digQ_zero]
        rfl
      clear HC
      go_wp2_with fail
      go_ret
      exact ⟨by rw [← HF.out]; rfl, hbw⟩
    · have HN : Hid (numL n0 = numL (n / 10) ++ (UInt8.ofNat (48 + n % 10) :: L s)) := by
        unfold Hid
        rw [HC.out, numL_pos n hp, List.append_assoc]
        rfl
      have hss : s.size ≤ 15 := by
        have h1 := HL.out
        rw [HC.out, List.length_append, L_len] at h1
        omega
      have hpi : (0 : Int) < n := by omega
      have hmod : ((n : Int) % 10) = ((n % 10 : Nat) : Int) := by omega
      obtain ⟨d, hd⟩ : ∃ d, d = n % 10 := ⟨_, rfl⟩
      rw [← hd] at hmod HN
      have hd10 : d < 10 := by omega
      have hnb : n < 1000000000000000 := by omega
      obtain ⟨c, hc⟩ : ∃ c, c = UInt8.ofNat (48 + d) := ⟨_, rfl⟩
      have hu : c.toNat = 48 + d := by rw [hc]; simp; omega
      rw [← hc] at HN
      clear hc
      have hcv : (convert 26 9 (.slice (some ⟨wr.heap.size, 0, none⟩) 1 1)).run Tryz.prog (wr.alloc (.cells #[.int .u8 (48 + (d : Int))] 5)) = .ok (.string ⟨#[c]⟩) (wr.alloc (.cells #[.int .u8 (48 + (d : Int))] 5)) := by
        have hb : RdB (wr.alloc (.cells #[.int .u8 (48 + (d : Int))] 5)) (.slice (some ⟨wr.heap.size, 0, none⟩) 1 1) [c] := by
          refine ⟨_, 1, rfl, Nat.le_refl _, ⟨by show 1 ≤ _; decide, by show 1 ≤ _; decide⟩, (fun h => by cases h), fun _ => ⟨wr.heap.size, 0, rfl, by simp, fun i hi j hj => ?_⟩⟩
          have hi0 : i = 0 := by simpa using hi
          have hj0 : j = 0 := by omega
          subst hi0 hj0
          refine ((cell_of_row _ wr.heap.size 0 _ _ (0, 0) (heap_alloc_new wr _)).trans ?_)
          simp only [bv, List.getD_cons_zero, hu]
          rfl
        exact conv_rdb hb
      have HS : Hid (L (⟨#[c]⟩ ++ s) = c :: L s) := by unfold Hid; rw [L_append]; rfl
      have hbw2 : ∀ X, Below w.heap.size w (wr.alloc X) := fun X => hbw.alloc hbw.size X
      have HBW := Lib.hid hbw2
      have hsz1 : (⟨#[c]⟩ : ByteArray).size = 1 := rfl
      clear hu hd HC hp hbw hbw2
      go_wp2_with fail
      exact ⟨⟨n / 10, _, by omega, by go_num, rfl, by unfold Hid; rw [HS.out]; exact HN.out, HBW.out _⟩, by simp [intOf]; omega⟩
end Go.Proofs.YthdninnjjmhpfaaGreatDoor

namespace Go.Proofs.YthdninnjjmhpfaaGreatDoor
open Go.RowKit
set_option maxHeartbeats 2000000
set_option maxRecDepth 100000

/-- A text, a number: their heads. -/
abbrev hdT (s : ByteArray) : Hd := ⟨4, false, false, ⟨#[]⟩, 0, 0, 0, 0, 0, s, []⟩
abbrev hdN (ng : Bool) (s : ByteArray) (x : Int) : Hd := ⟨2, false, ng, s, x, 0, 0, 0, 0, ⟨#[]⟩, []⟩
/-- A value of a head alone, all slices nil, as it is handed back. -/
def LeafPost (w : World) (h : Hd) (e : Ending) (w' : World) : Prop := e = .returned (aggV ⟨h, .slice none 0 0, .slice none 0 0, .slice none 0 0⟩) ∧ Below w.heap.size w w'
/-- A leaf reads in every world. -/
theorem leaf_rd (h : Hd) (ok : HdOk h) (hb : h.bytes = []) (w : World) (S : Nat → Prop) : RdI w S ⟨h, .slice none 0 0, .slice none 0 0, .slice none 0 0⟩ (.mk h [] []) := by
  have hB : RdB w (.slice none 0 0) h.bytes := by rw [hb]; exact Sl.nil
  have nb : ∀ S : Nat → Prop, BlkIn S (.slice none 0 0) := fun S g o p n cap hv _ => by cases hv
  exact RdI.mk h [] [] _ _ _ (fun _ => ⟨h, .slice none 0 0, .slice none 0 0, .slice none 0 0⟩) (fun _ => ⟨h, .slice none 0 0, .slice none 0 0, .slice none 0 0⟩) ok hB
    Sl.nil (fun i hi => absurd hi (Nat.not_lt_zero _)) Sl.nil (fun i hi => absurd hi (Nat.not_lt_zero _)) (fun i hi => absurd hi (Nat.not_lt_zero _)) (nb _) (nb _) (nb _)
theorem i64_0 : I64 0 := ⟨by decide, by decide⟩
theorem i64_2 : I64 2 := ⟨by decide, by decide⟩
theorem i64_4 : I64 4 := ⟨by decide, by decide⟩
theorem emp_le : (⟨#[]⟩ : ByteArray).size ≤ 1000000000 := by decide
theorem okT (s : ByteArray) (hs : s.size ≤ 1000000000) : HdOk (hdT s) := ⟨i64_4, i64_0, i64_0, i64_0, i64_0, i64_0, emp_le, hs, Nat.zero_le _⟩
theorem okN (ng : Bool) (s : ByteArray) (x : Int) (hs : s.size ≤ 1000000000) (hx : I64 x) : HdOk (hdN ng s x) := ⟨i64_2, hx, i64_0, i64_0, i64_0, i64_0, hs, emp_le, Nat.zero_le _⟩
theorem VText_any (s : ByteArray) (w : World) : Calls Tryz.prog 33 #[.string s] w (LeafPost w (hdT s)) := by
  have HB : Hid (∀ X, Below w.heap.size w (w.alloc X)) := fun X => (Below.refl _ _).alloc (Nat.le_refl _) _
  go_enter Tryz.func33, Tryz.ntmps33
  go_wp2_with fail
  exact bodyPost_ret (v := aggV ⟨hdT s, .slice none 0 0, .slice none 0 0, .slice none 0 0⟩) (by simp [results, Tryz.results33, go_sem]) rfl ⟨rfl, HB.out _⟩
theorem RText56_any (s : ByteArray) (w : World) : Calls Tryz.prog 82 #[.string s] w (LeafPost w (hdT s)) := by
  have HB : Hid (∀ X, Below w.heap.size w (w.alloc X)) := fun X => (Below.refl _ _).alloc (Nat.le_refl _) _
  go_enter Tryz.func82, Tryz.ntmps82
  go_wp2_with fail
  exact bodyPost_ret (v := aggV ⟨hdT s, .slice none 0 0, .slice none 0 0, .slice none 0 0⟩) (by simp [results, Tryz.results82, go_sem]) rfl ⟨rfl, HB.out _⟩
theorem VNum_any (ng : Bool) (s : ByteArray) (x : Int) (w : World) : Calls Tryz.prog 79 #[.agg #[.bool ng, .string s, .int .i64 x]] w (LeafPost w (hdN ng s x)) := by
  have HB : Hid (∀ X Y, Below w.heap.size w ((w.alloc X).alloc Y)) := fun X Y => ((Below.refl _ w).alloc (Nat.le_refl _) _).alloc (by simp) _
  go_enter Tryz.func79, Tryz.ntmps79
  go_wp2_with fail
  exact bodyPost_ret (v := aggV ⟨hdN ng s x, .slice none 0 0, .slice none 0 0, .slice none 0 0⟩) (by simp [results, Tryz.results79, go_sem]) rfl ⟨rfl, HB.out _ _⟩
theorem RNum7_any (ng : Bool) (s : ByteArray) (x : Int) (w : World) : Calls Tryz.prog 119 #[.agg #[.bool ng, .string s, .int .i64 x]] w (LeafPost w (hdN ng s x)) := by
  have HB : Hid (∀ X Y, Below w.heap.size w ((w.alloc X).alloc Y)) := fun X Y => ((Below.refl _ w).alloc (Nat.le_refl _) _).alloc (by simp) _
  go_enter Tryz.func119, Tryz.ntmps119
  go_wp2_with fail
  exact bodyPost_ret (v := aggV ⟨hdN ng s x, .slice none 0 0, .slice none 0 0, .slice none 0 0⟩) (by simp [results, Tryz.results119, go_sem]) rfl ⟨rfl, HB.out _ _⟩
/-- The name of an operator. -/
def nameS (op : Int) : ByteArray := if op = 1 then ⟨#[114, 101, 112, 108, 97, 99, 101]⟩ else if op = 2 then ⟨#[105, 110, 115, 101, 114, 116]⟩ else if op = 3 then ⟨#[114, 101, 109, 111, 118, 101]⟩ else ⟨#[116, 101, 115, 116]⟩
theorem name_any (op : Int) (w : World) : Calls Tryz.prog 34 #[.int .i64 op] w fun e w' => e = .returned (.string (nameS op)) ∧ w = w' := by
  have HN : Hid (nameS op = if op = 1 then ⟨#[114, 101, 112, 108, 97, 99, 101]⟩ else if op = 2 then ⟨#[105, 110, 115, 101, 114, 116]⟩ else if op = 3 then ⟨#[114, 101, 109, 111, 118, 101]⟩ else ⟨#[116, 101, 115, 116]⟩) := rfl
  generalize nameS op = r at *
  by_cases h1 : op = 1
  · have HF := Lib.hid (HN.out.trans (if_pos h1))
    subst h1
    clear HN
    go_enter Tryz.func34, Tryz.ntmps34
    go_wp2_with fail
    go_ret
    exact ⟨by rw [HF.out]; rfl, rfl⟩
  by_cases h2 : op = 2
  · have HF := Lib.hid ((HN.out.trans (if_neg h1)).trans (if_pos h2))
    subst h2
    clear HN h1
    go_enter Tryz.func34, Tryz.ntmps34
    go_wp2_with fail
    go_ret
    exact ⟨by rw [HF.out]; rfl, rfl⟩
  by_cases h3 : op = 3
  · have HF := Lib.hid (((HN.out.trans (if_neg h1)).trans (if_neg h2)).trans (if_pos h3))
    subst h3
    clear HN h1 h2
    go_enter Tryz.func34, Tryz.ntmps34
    go_wp2_with fail
    go_ret
    exact ⟨by rw [HF.out]; rfl, rfl⟩
  have HF := Lib.hid (((HN.out.trans (if_neg h1)).trans (if_neg h2)).trans (if_neg h3))
  have q1 : (op == 1) = false := by rw [beq_eq_false_iff_ne]; exact h1
  have q2 : (op == 2) = false := by rw [beq_eq_false_iff_ne]; exact h2
  have q3 : (op == 3) = false := by rw [beq_eq_false_iff_ne]; exact h3
  clear HN h1 h2 h3
  go_enter Tryz.func34, Tryz.ntmps34
  go_wp2_with fail
  go_ret
  exact ⟨by rw [HF.out]; rfl, rfl⟩
end Go.Proofs.YthdninnjjmhpfaaGreatDoor

namespace Go.Proofs.YthdninnjjmhpfaaGreatDoor
open Go.RowKit
set_option maxHeartbeats 4000000
set_option maxRecDepth 100000

/-- A decimal's sign, digits and exponent, and the error. -/
structure DecR where
  neg : Bool
  ds : List UInt8
  e : Int
  err : Nat
def badR (n : Nat) : DecR := ⟨false, [], 0, n⟩
def normS (neg : Bool) (s : List UInt8) (e : Int) : DecR :=
  if s = [] then badR 0 else if 400 < e + tz s ∨ e + tz s < -400 ∨ 120 < s.length - tz s then badR 2 else ⟨neg, s.take (s.length - tz s), e + tz s, 0⟩
def normL (neg : Bool) (l : List UInt8) (e : Int) : DecR := normS neg (zl l) e
theorem sz_of {u : ByteArray} {l : List UInt8} (h : L u = l) : u.size = l.length := by rw [← h, L_len]
/-- What is left behind the removal of the zeros ahead. -/
def TrimLPost (s : ByteArray) (w : World) (e : Ending) (w' : World) : Prop := ∃ t : ByteArray, e = .returned (.string t) ∧ L t = zl (L s) ∧ w = w'
theorem Strip_any (s : ByteArray) (w : World) (hs : s.size ≤ 1000000000) :
    Calls Tryz.prog 187 #[.string s] w (TrimLPost s w) := by
  go_enter Tryz.func187, Tryz.ntmps187
  go_wp2_with fail
  go_loop [3] (fun v => ∃ k : Nat, v = .int .i64 k ∧ k ≤ s.size ∧ Hid (zl ((L s).drop k) = zl (L s))) (fun v => s.size - (intOf v).toNat)
  case atStart => exact ⟨0, rfl, Nat.zero_le _, by unfold Hid; rw [List.drop_zero]⟩
  case round =>
    obtain ⟨k, rfl, hk, HC⟩ := hrel
    by_cases hlt : k < s.size
    case neg =>
      have HF : Hid (TrimLPost s w (.returned (.string (s.extract k s.size))) w) := ⟨_, rfl, by rw [← HC.out, L_from, L_drop_nil s k (by omega)]; rfl, rfl⟩
      clear HC
      go_wp2_with fail
      go_ret
      exact HF.out
    have HL := Lib.hid (L_drop s k hlt)
    by_cases h1 : (s[k]).toNat = 48
    · have HN : Hid (zl ((L s).drop (k + 1)) = zl (L s)) := by
        unfold Hid
        rw [← HC.out, HL.out]
        show _ = if _ then _ else _
        rw [if_pos h1]
      have q := b8t s[k] 48 (by omega)
      clear HL HC h1
      go_wp2_with fail
      exact ⟨⟨k + 1, rfl, by omega, HN⟩, by simp [intOf]; omega⟩
    · have HF : Hid (TrimLPost s w (.returned (.string (s.extract k s.size))) w) := by
        refine ⟨_, rfl, ?_, rfl⟩
        rw [← HC.out, L_from, HL.out]
        show _ = if _ then _ else _
        rw [if_neg h1]
      have q := b8f s[k] 48 (by omega)
      clear HL HC h1
      go_wp2_with fail
      go_ret
      exact HF.out
/-- A decimal and an error as they are handed back. -/
abbrev decV (r : DecR) : Value := .tuple #[.agg #[.bool r.neg, .string ⟨r.ds.toArray⟩, .int .i64 r.e], .int .i64 (r.err : Nat)]
def DecPost (w : World) (r : DecR) (e : Ending) (w' : World) : Prop := e = .returned (decV r) ∧ Below w.heap.size w w'
theorem decPost_of {w w' : World} {r : DecR} {n : Bool} {s : ByteArray} {e q : Int} (h : r = ⟨n, L s, e, q.toNat⟩) (hq : 0 ≤ q) (hb : Below w.heap.size w w') : DecPost w r (.returned (.tuple #[.agg #[.bool n, .string s, .int .i64 e], .int .i64 q])) w' := by
  refine ⟨?_, hb⟩
  subst h
  simp only [decV, mk_L, Int.toNat_of_nonneg hq]
theorem norm_any (ng : Bool) (s : ByteArray) (x : Int) (w : World) (hs : s.size ≤ 1000000000) (hx1 : -3000000000000 ≤ x) (hx2 : x ≤ 3000000000000) :
    Calls Tryz.prog 113 #[.bool ng, .string s, .int .i64 x] w (DecPost w (normS ng (L s) x)) := by
  have hbw : ∀ X, Below w.heap.size w (w.alloc X) := fun X => (Below.refl _ _).alloc (Nat.le_refl _) _
  have HB := Lib.hid hbw; clear hbw
  have HT := Lib.hid (fun w => TrimRight0_any s w hs)
  by_cases h0 : L s = []
  · have HF : Hid (∀ w', Below w.heap.size w w' → DecPost w (normS ng (L s) x) (.returned (.tuple #[.agg #[.bool false, .string ⟨#[]⟩, .int .i64 0], .int .i64 0])) w') := fun w' hb => decPost_of (by unfold normS; rw [if_pos h0]; rfl) (by decide) hb
    have hq := isE.2 h0
    clear h0 HT
    go_enter Tryz.func113, Tryz.ntmps113
    go_wp2_with fail
    exact bodyPost_ret (v := .tuple #[.agg #[.bool false, .string ⟨#[]⟩, .int .i64 0], .int .i64 0]) (by simp [results, Tryz.results113, go_sem]) rfl (HF.out _ (HB.out _))
  have hq : s.toList.isEmpty = false := by rw [Bool.eq_false_iff]; exact fun h => h0 (isE.1 h)
  have HR : Hid (normS ng (L s) x = if 400 < x + tz (L s) ∨ x + tz (L s) < -400 ∨ 120 < (L s).length - tz (L s) then badR 2 else ⟨ng, (L s).take ((L s).length - tz (L s)), x + tz (L s), 0⟩) := by unfold Hid normS; rw [if_neg h0]
  clear h0
  obtain ⟨r, hr⟩ : ∃ r, r = normS ng (L s) x := ⟨_, rfl⟩
  rw [← hr] at HR ⊢
  clear hr
  go_enter Tryz.func113, Tryz.ntmps113
  go_wp2_with fail
  refine (HT.out _).mono ?_
  rintro e w1 ⟨t, rfl, h1, h2, rfl⟩
  have htz := tz_le (L s)
  rw [L_len] at htz
  obtain ⟨z, hz⟩ : ∃ z, z = tz (L s) := ⟨_, rfl⟩
  rw [← hz] at HR h1 htz
  clear hz HT
  have hU : s.extract 0 t.size = t := L_inj (by rw [L_extract, List.drop_zero, Nat.sub_zero, ← h2])
  have HR2 : Hid (r = if 400 < x + z ∨ x + z < -400 ∨ 120 < t.size then badR 2 else ⟨ng, L t, x + z, 0⟩) := by
    have : (L s).length - z = t.size := by rw [L_len]; omega
    unfold Hid
    rw [HR.out, this, ← h2]
  have e1 : (s.size : Int) - (t.size : Int) = (z : Int) := by omega
  have e2 : (s.size : Int) - (z : Int) = (t.size : Int) := by omega
  have hts : t.size ≤ s.size := by omega
  have hzs : z ≤ 1000000000 := by omega
  clear HR h2 h1 htz
  by_cases c1 : 400 - (z : Int) < x
  · have HF : Hid (∀ w', Below w.heap.size w w' → DecPost w r (.returned (.tuple #[.agg #[.bool false, .string ⟨#[]⟩, .int .i64 0], .int .i64 2])) w') := fun w' hb => decPost_of (by rw [HR2.out, if_pos (.inl (by omega))]; rfl) (by decide) hb
    clear HR2
    go_wp2_with fail
    exact bodyPost_ret (v := .tuple #[.agg #[.bool false, .string ⟨#[]⟩, .int .i64 0], .int .i64 2]) (by simp [results, Tryz.results113, go_sem]) rfl (HF.out _ (HB.out _))
  have c1f : ((400 : Int) - (z : Int) < x) = False := eq_false c1
  by_cases c2 : x < -400 - (z : Int)
  · have HF : Hid (∀ w', Below w.heap.size w w' → DecPost w r (.returned (.tuple #[.agg #[.bool false, .string ⟨#[]⟩, .int .i64 0], .int .i64 2])) w') := fun w' hb => decPost_of (by rw [HR2.out, if_pos (.inr (.inl (by omega)))]; rfl) (by decide) hb
    clear HR2
    go_wp2_with fail
    exact bodyPost_ret (v := .tuple #[.agg #[.bool false, .string ⟨#[]⟩, .int .i64 0], .int .i64 2]) (by simp [results, Tryz.results113, go_sem]) rfl (HF.out _ (HB.out _))
  have c2f : (x < -400 - (z : Int)) = False := eq_false c2
  by_cases c3 : 120 < t.size
  · have HF : Hid (∀ w', Below w.heap.size w w' → DecPost w r (.returned (.tuple #[.agg #[.bool false, .string ⟨#[]⟩, .int .i64 0], .int .i64 2])) w') := fun w' hb => decPost_of (by rw [HR2.out, if_pos (.inr (.inr c3))]; rfl) (by decide) hb
    have c3i : (120 : Int) < t.size := by omega
    clear HR2 c3 c1 c2
    go_wp2_with fail
    exact bodyPost_ret (v := .tuple #[.agg #[.bool false, .string ⟨#[]⟩, .int .i64 0], .int .i64 2]) (by simp [results, Tryz.results113, go_sem]) rfl (HF.out _ (HB.out _))
  · have HF : Hid (∀ w', Below w.heap.size w w' → DecPost w r (.returned (.tuple #[.agg #[.bool ng, .string t, .int .i64 (x + z)], .int .i64 0])) w') := fun w' hb => decPost_of (by rw [HR2.out, if_neg (by omega)]; rfl) (by decide) hb
    have c3i : ((120 : Int) < t.size) = False := eq_false (by omega)
    clear HR2 c3 c1 c2
    go_wp2_with fail
    exact bodyPost_ret (v := .tuple #[.agg #[.bool ng, .string t, .int .i64 (x + z)], .int .i64 0]) (by simp [results, Tryz.results113, go_sem]) rfl (HF.out _ (HB.out _))
theorem normal_any (ng : Bool) (s : ByteArray) (x : Int) (w : World) (hs : s.size ≤ 1000000000) (hx1 : -3000000000000 ≤ x) (hx2 : x ≤ 3000000000000) :
    Calls Tryz.prog 157 #[.bool ng, .string s, .int .i64 x] w (DecPost w (normL ng (L s) x)) := by
  have hbw : ∀ X, Below w.heap.size w (w.alloc X) := fun X => (Below.refl _ _).alloc (Nat.le_refl _) _
  have HB := Lib.hid hbw; clear hbw
  have HST := Lib.hid (fun w => Strip_any s w hs)
  obtain ⟨r, hr⟩ : ∃ r, r = normL ng (L s) x := ⟨_, rfl⟩
  rw [← hr]
  unfold normL at hr
  have HR0 := Lib.hid hr
  clear hr
  go_enter Tryz.func157, Tryz.ntmps157
  go_wp2_with fail
  refine (HST.out _).mono ?_
  rintro e w1 ⟨t, rfl, ht, rfl⟩
  have hts : t.size ≤ 1000000000 := by have h1 := zl_le (L s); have h2 := sz_of ht; rw [L_len] at h1; omega
  rw [← ht] at HR0
  clear HST ht
  by_cases h0 : L t = []
  · have HF : Hid (∀ w', Below w.heap.size w w' → DecPost w r (.returned (.tuple #[.agg #[.bool false, .string ⟨#[]⟩, .int .i64 0], .int .i64 0])) w') := fun w' hb => decPost_of (by rw [HR0.out]; unfold normS; rw [if_pos h0]; rfl) (by decide) hb
    have hq := isE.2 h0
    clear h0 HR0
    go_wp2_with fail
    exact bodyPost_ret (v := .tuple #[.agg #[.bool false, .string ⟨#[]⟩, .int .i64 0], .int .i64 0]) (by simp [results, Tryz.results157, go_sem]) rfl (HF.out _ (HB.out _))
  have hq : t.toList.isEmpty = false := by rw [Bool.eq_false_iff]; exact fun h => h0 (isE.1 h)
  have HR : Hid (r = if 400 < x + tz (L t) ∨ x + tz (L t) < -400 ∨ 120 < (L t).length - tz (L t) then badR 2 else ⟨ng, (L t).take ((L t).length - tz (L t)), x + tz (L t), 0⟩) := by unfold Hid; rw [HR0.out]; unfold normS; rw [if_neg h0]
  clear h0 HR0
  have HZ := Lib.hid (fun w => Zeros1_any t w hts)
  have htz := tz_le (L t)
  rw [L_len] at htz
  generalize tz (L t) = z at *
  obtain ⟨v, hv⟩ : ∃ v, v = t.extract 0 (t.size - z) := ⟨_, rfl⟩
  have hvL : L v = (L t).take (t.size - z) := by rw [hv, L_extract, List.drop_zero, Nat.sub_zero]
  have hvs : v.size = t.size - z := by rw [sz_of hvL, List.length_take, L_len]; omega
  have HR2 : Hid (r = if 400 < x + z ∨ x + z < -400 ∨ 120 < v.size then badR 2 else ⟨ng, L v, x + z, 0⟩) := by
    unfold Hid
    rw [HR.out, L_len, ← hvL, ← hvs]
  have e2 : (t.size : Int) - (z : Int) = ((t.size - z : Nat) : Int) := by omega
  have hV := hv.symm
  have HVS := Lib.hid hvs
  clear HR hvL hv
  go_wp2_with fail
  refine (HZ.out _).mono ?_
  rintro e w1 ⟨rfl, rfl⟩
  have hzt : (z : Int) ≤ t.size := by omega
  have hz0 : z ≤ 1000000000 := by omega
  clear HZ
  go_upto_region 6 with fail
  try rw [hV]
  clear hV hzt e2
  have hvi : v.size ≤ 1000000000 := by have := HVS.out; omega
  clear HVS htz hvs
  by_cases c3 : 120 < v.size
  · have c3i : (120 : Int) < v.size := by omega
    have HF : Hid (∀ w', Below w.heap.size w w' → DecPost w r (.returned (.tuple #[.agg #[.bool false, .string ⟨#[]⟩, .int .i64 0], .int .i64 2])) w') := fun w' hb => decPost_of (by rw [HR2.out, if_pos (.inr (.inr c3))]; rfl) (by decide) hb
    clear HR2 c3
    go_wp2_with fail
    exact bodyPost_ret (v := .tuple #[.agg #[.bool false, .string ⟨#[]⟩, .int .i64 0], .int .i64 2]) (by simp [results, Tryz.results157, go_sem]) rfl (HF.out _ (HB.out _))
  have c3f : ((120 : Int) < (v.size : Int)) = False := eq_false (by omega)
  by_cases c0 : 400 < x
  · have c0f : ((400 : Int) < x) = True := eq_true c0
    have HF : Hid (∀ w', Below w.heap.size w w' → DecPost w r (.returned (.tuple #[.agg #[.bool false, .string ⟨#[]⟩, .int .i64 0], .int .i64 2])) w') := fun w' hb => decPost_of (by rw [HR2.out, if_pos (.inl (by omega))]; rfl) (by decide) hb
    clear HR2 c3 c0
    go_wp2_with fail
    exact bodyPost_ret (v := .tuple #[.agg #[.bool false, .string ⟨#[]⟩, .int .i64 0], .int .i64 2]) (by simp [results, Tryz.results157, go_sem]) rfl (HF.out _ (HB.out _))
  have c0f : ((400 : Int) < x) = False := eq_false c0
  by_cases c1 : 400 < x + (z : Int)
  · have c1f : ((400 : Int) < x + (z : Int)) = True := eq_true c1
    have HF : Hid (∀ w', Below w.heap.size w w' → DecPost w r (.returned (.tuple #[.agg #[.bool false, .string ⟨#[]⟩, .int .i64 0], .int .i64 2])) w') := fun w' hb => decPost_of (by rw [HR2.out, if_pos (.inl c1)]; rfl) (by decide) hb
    clear HR2 c3 c0 c1
    go_wp2_with fail
    exact bodyPost_ret (v := .tuple #[.agg #[.bool false, .string ⟨#[]⟩, .int .i64 0], .int .i64 2]) (by simp [results, Tryz.results157, go_sem]) rfl (HF.out _ (HB.out _))
  have c1f : ((400 : Int) < x + (z : Int)) = False := eq_false c1
  by_cases c2 : x + (z : Int) < -400
  · have c2f : (x + (z : Int) < -400) = True := eq_true c2
    have HF : Hid (∀ w', Below w.heap.size w w' → DecPost w r (.returned (.tuple #[.agg #[.bool false, .string ⟨#[]⟩, .int .i64 0], .int .i64 2])) w') := fun w' hb => decPost_of (by rw [HR2.out, if_pos (.inr (.inl c2))]; rfl) (by decide) hb
    clear HR2 c3 c0 c1 c2
    go_wp2_with fail
    exact bodyPost_ret (v := .tuple #[.agg #[.bool false, .string ⟨#[]⟩, .int .i64 0], .int .i64 2]) (by simp [results, Tryz.results157, go_sem]) rfl (HF.out _ (HB.out _))
  have c2f : (x + (z : Int) < -400) = False := eq_false c2
  have HF : Hid (∀ w', Below w.heap.size w w' → DecPost w r (.returned (.tuple #[.agg #[.bool ng, .string v, .int .i64 (x + z)], .int .i64 0])) w') := fun w' hb => decPost_of (by rw [HR2.out, if_neg (fun h => h.elim c1 (fun h => h.elim c2 c3))]; rfl) (by decide) hb
  clear HR2 c3 c0 c1 c2
  go_wp2_with fail
  exact bodyPost_ret (v := .tuple #[.agg #[.bool ng, .string v, .int .i64 (x + z)], .int .i64 0]) (by simp [results, Tryz.results157, go_sem]) rfl (HF.out _ (HB.out _))
end Go.Proofs.YthdninnjjmhpfaaGreatDoor

namespace Go.Proofs.YthdninnjjmhpfaaGreatDoor
open Go.RowKit
set_option maxHeartbeats 4000000
set_option maxRecDepth 100000

theorem box3 {w : World} {g : Nat} {t : TypeId} {a0 a1 a2 : Value} (h : w.heap[g]? = some (.cells #[a0, a1, a2] t (0, 0))) :
    (w.cell? ⟨g, 0, none⟩ = some a0 ∧ w.cell? ⟨g, 1, none⟩ = some a1 ∧ w.cell? ⟨g, 2, none⟩ = some a2) ∧ ∀ j, w.frozen? ⟨g, j, none⟩ = false :=
  ⟨⟨(cell_of_row w g 0 _ _ (0, 0) h).trans rfl, (cell_of_row w g 1 _ _ (0, 0) h).trans rfl, (cell_of_row w g 2 _ _ (0, 0) h).trans rfl⟩, fun j => by simp [World.frozen?, h]⟩
/-- A decimal alone, as it is handed back. -/
def DecOne (w : World) (r : DecR) (e : Ending) (w' : World) : Prop := e = .returned (.agg #[.bool r.neg, .string ⟨r.ds.toArray⟩, .int .i64 r.e]) ∧ Below w.heap.size w w'
theorem FromInt2_any (n : Nat) (w : World) (hn : n < 1000000000000000) :
    Calls Tryz.prog 120 #[.int .i64 n] w (DecOne w (normL false (numL n) 0)) := by
  have HF := Lib.hid (fun w => FromInt1_any n w hn)
  have hl : (numL n).length ≤ 15 := by unfold numL; rw [List.length_reverse]; exact digQ_len 15 n hn
  have HNM := Lib.hid (fun w => normal_any false ⟨(numL n).toArray⟩ 0 w (by show (numL n).toArray.size ≤ _; simp; omega) (by decide) (by decide))
  rw [show L ⟨(numL n).toArray⟩ = numL n from rfl] at HNM
  generalize normL false (numL n) 0 = r at *
  obtain ⟨rn, rs, re, rr⟩ := r
  generalize (⟨(numL n).toArray⟩ : ByteArray) = t at *
  have h0 : ¬ (n : Int) < 0 := by omega
  clear hl
  go_enter Tryz.func120, Tryz.ntmps120
  go_wp2_with fail
  refine (HF.out _).mono ?_
  rintro e w1 ⟨rfl, hb1⟩
  have HX1 := Lib.hid ((hb1.block w.heap.size (by simp)).trans (heap_alloc_new w _))
  have HB1 := Lib.hid (((Below.refl _ w).alloc (Nat.le_refl _) _).trans (hb1.mono (by simp)))
  have HZ1 : Hid (w.heap.size < w1.heap.size) := by unfold Hid; have := hb1.size; simp at this; omega
  clear hb1
  go_wp2_with fail
  refine (HNM.out _).mono ?_
  rintro e w2 ⟨rfl, hb2⟩
  have HX2 := Lib.hid ((hb2.block w.heap.size HZ1.out).trans HX1.out)
  have HB2 := Lib.hid (HB1.out.trans (hb2.mono HB1.out.size))
  have HZ2 : Hid (w.heap.size < w2.heap.size) := Nat.lt_of_lt_of_le HZ1.out hb2.size
  obtain ⟨⟨y0, y1, y2⟩, yf⟩ := box3 HX2.out
  have hz := HZ2.out
  clear hb2 HX1 HB1 HZ1
  go_wp2_with fail
  refine bodyPost_ret (v := .agg #[.bool rn, .string ⟨rs.toArray⟩, .int .i64 re]) (by simp [results, Tryz.results120, go_sem, y0, y1, y2, hz]) rfl ⟨rfl, ?_⟩
  refine Below.alloc ?_ (by have := HB2.out.size; simp; omega) _
  repeat refine Below.setCell ?_ (by dsimp only; omega) _
  exact HB2.out
theorem RInt7_any (n : Nat) (w : World) (hn : n < 1000000000000000) (r : DecR) (hr : r = normL false (numL n) 0) :
    Calls Tryz.prog 84 #[.int .i64 n] w (LeafPost w (hdN r.neg ⟨r.ds.toArray⟩ r.e)) := by
  have HF := Lib.hid (fun w => FromInt2_any n w hn)
  rw [← hr] at HF
  clear hr
  obtain ⟨rn, rs, re, rr⟩ := r
  go_enter Tryz.func84, Tryz.ntmps84
  go_wp2_with fail
  refine (HF.out _).mono ?_
  rintro e w1 ⟨rfl, hb1⟩
  have HX1 := Lib.hid ((hb1.block w.heap.size (by simp)).trans (heap_alloc_new w _))
  have HB1 := Lib.hid (((Below.refl _ w).alloc (Nat.le_refl _) _).trans (hb1.mono (by simp)))
  have HZ1 : Hid (w.heap.size < w1.heap.size) := by unfold Hid; have := hb1.size; simp at this; omega
  clear hb1
  go_wp2_with fail
  refine (RNum7_any _ _ _ _).mono ?_
  rintro e w2 ⟨rfl, hb2⟩
  have HX2 := Lib.hid ((hb2.block w.heap.size HZ1.out).trans HX1.out)
  have HB2 := Lib.hid (HB1.out.trans (hb2.mono HB1.out.size))
  obtain ⟨⟨y0, y1, y2, y3, y4, y5, y6, y7, y8, y9, y10, y11, y12⟩, yf⟩ := box13 HX2.out
  clear hb2 HX1 HB1 HZ1
  go_wp2_with fail
  refine bodyPost_ret (v := aggV ⟨hdN rn ⟨rs.toArray⟩ re, .slice none 0 0, .slice none 0 0, .slice none 0 0⟩) (by simp [results, Tryz.results84, go_sem, y0, y1, y2, y3, y4, y5, y6, y7, y8, y9, y10, y11, y12]) rfl ⟨rfl, ?_⟩
  repeat refine Below.setCell ?_ (by dsimp only; omega) _
  exact HB2.out
end Go.Proofs.YthdninnjjmhpfaaGreatDoor

namespace Go.Proofs.YthdninnjjmhpfaaGreatDoor
open Go.RowKit
set_option maxHeartbeats 4000000
set_option maxRecDepth 100000

/-- Block g holds the list, turned round up to i from both ends. -/
def RevAt (w wr : World) (g : Nat) (l : List UInt8) (i : Nat) : Prop :=
  Below g w wr ∧ g < wr.heap.size ∧ ∃ cur : Array Value, wr.heap[g]? = some (.cells cur 5 (0, 0)) ∧ ∀ j, j < l.length → cur[j]? = some (bv (if j < i ∨ l.length - i ≤ j then l.getD (l.length - 1 - j) 0 else l.getD j 0))
theorem RevAt.cell {w wr : World} {g i : Nat} {l : List UInt8} (h : RevAt w wr g l i) (j : Nat) (hj : j < l.length) (h1 : ¬ (j < i ∨ l.length - i ≤ j)) : wr.cell? ⟨g, j, none⟩ = some (bv (l.getD j 0)) := by
  obtain ⟨_, _, cur, hx, hc⟩ := h
  rw [cell_of_row wr g j _ _ (0, 0) hx, hc j hj, if_neg h1]
theorem RevAt.frozen {w wr : World} {g i : Nat} {l : List UInt8} (h : RevAt w wr g l i) (j : Nat) : wr.frozen? ⟨g, j, none⟩ = false := by
  obtain ⟨_, _, cur, hx, _⟩ := h
  simp [World.frozen?, hx]
theorem RevAt.swap {w wr w2 : World} {g i k : Nat} {l : List UInt8} (h : RevAt w wr g l i) (hik : i + k + 1 = l.length) (hlt : i < k) (h1 : Below g wr w2) (hs : g < w2.heap.size)
    (hx2 : ∀ cur, wr.heap[g]? = some (.cells cur 5 (0, 0)) → w2.heap[g]? = some (.cells ((cur.setIfInBounds i (bv (l.getD k 0))).setIfInBounds k (bv (l.getD i 0))) 5 (0, 0))) : RevAt w w2 g l (i + 1) := by
  obtain ⟨hb, hg, cur, hx, hc⟩ := h
  refine ⟨hb.trans h1, hs, _, hx2 cur hx, fun j hj => ?_⟩
  have hsz : ∀ j, j < l.length → j < cur.size := fun j hj => (Array.getElem?_eq_some_iff.1 (hc j hj)).1
  rw [Array.getElem?_setIfInBounds]
  by_cases hjk : k = j
  · subst hjk
    rw [if_pos rfl, if_pos (by rw [Array.size_setIfInBounds]; exact hsz k hj), if_pos (by omega), show l.length - 1 - k = i by omega]
  · rw [if_neg hjk, Array.getElem?_setIfInBounds]
    by_cases hji : i = j
    · subst hji
      rw [if_pos rfl, if_pos (hsz i hj), if_pos (by omega), show l.length - 1 - i = k by omega]
    · rw [if_neg hji, hc j hj]
      by_cases hc1 : j < i ∨ l.length - i ≤ j
      · rw [if_pos hc1, if_pos (by omega)]
      · rw [if_neg hc1, if_neg (by omega)]
theorem reverse_any (g cap : Nat) (l : List UInt8) (w : World) (hl : l.length ≤ 100) (h1 : 1 ≤ l.length) (h0 : RevAt w w g l 0) :
    Calls Tryz.prog 143 #[.slice (some ⟨g, 0, none⟩) l.length cap] w fun e w' => (∃ v, e = .returned v) ∧ RevAt w w' g l l.length := by
  have H0 := Lib.hid h0
  clear h0
  go_enter Tryz.func143, Tryz.ntmps143
  go_wp2_with fail
  go_loopw [2, 3] (fun iv kv wr => ∃ i k : Nat, i + k + 1 = l.length ∧ i ≤ k + 1 ∧ iv = .int .i64 i ∧ kv = .int .i64 k ∧ Hid (RevAt w wr g l i)) (fun iv kv _ => (intOf kv - intOf iv + 1).toNat)
  case atStart => exact ⟨0, l.length - 1, by omega, by omega, rfl, congrArg (Value.int .i64) (by omega), H0.out⟩
  case round =>
    clear H0
    obtain ⟨i, k, hik, hle, rfl, rfl, HC⟩ := hrel
    by_cases hlt : i < k
    case neg =>
      have HF : Hid (RevAt w wr g l l.length) := by
        obtain ⟨hb, hg, cur, hx, hc⟩ := HC.out
        refine ⟨hb, hg, cur, hx, fun j hj => ?_⟩
        rw [hc j hj, if_pos (show j < l.length ∨ l.length - l.length ≤ j from .inl hj)]
        by_cases hc1 : j < i ∨ l.length - i ≤ j
        · rw [if_pos hc1]
        · rw [if_neg hc1, show l.length - 1 - j = j by omega]
      clear HC
      go_wp2_with fail
      go_end0
      exact ⟨⟨_, rfl⟩, HF.out⟩
    have c1 := HC.out.cell i (by omega) (by omega)
    have c2 := HC.out.cell k (by omega) (by omega)
    have f1 := HC.out.frozen i
    have f2 := HC.out.frozen k
    have hii : (i : Int) < l.length := by omega
    have hki : (k : Int) < l.length := by omega
    have HSW := Lib.hid (fun w2 => RevAt.swap (w2 := w2) HC.out hik hlt)
    have HG := Lib.hid HC.out.2.1
    unfold bv at c1 c2 HSW
    generalize l.getD i 0 = x at *
    generalize l.getD k 0 = y at *
    clear HC
    go_wp2_with fail
    go_region
    go_wp2_with fail
    refine ⟨⟨i + 1, k - 1, by omega, by omega, by go_num, congrArg (Value.int .i64) (by omega), HSW.out _ ?_ ?_ ?_⟩, by simp [intOf]; omega⟩
    · exact (((Below.refl _ wr).setCell (p := ⟨g, i, none⟩) (Nat.le_refl _) _).setCell (p := ⟨g, k, none⟩) (Nat.le_refl _) _).drew
    · have := HG.out; simpa using this
    · exact fun cur hx => heap_setCell_same _ g k _ _ _ (heap_setCell_same wr g i _ _ _ hx)
end Go.Proofs.YthdninnjjmhpfaaGreatDoor

namespace Go.Proofs.YthdninnjjmhpfaaGreatDoor
open Go.RowKit
set_option maxHeartbeats 1000000
set_option maxRecDepth 100000

/-- What the calls read of the package-level variables. -/
def EnvT (w : World) : Prop := Lib.TabIs Tryz.prog w "internal/strconv.uint64pow10" .u64 Lib.pow10Tab ∧ 3 + 1 ≤ w.heap.size ∧ 8 + 1 ≤ w.heap.size ∧ w.cell? ⟨8, 15, none⟩ = some (.int .u8 4)
theorem EnvT.below {w w' : World} (h : EnvT w) (hb : Below w.heap.size w w') : EnvT w' := by
  obtain ⟨h1, h0, h2, h3⟩ := h
  refine ⟨Go.Joins.tab_stays (show Tryz.prog.globalNamed "internal/strconv.uint64pow10" = some 3 by kernel_rfl) h1 hb (Nat.le_refl _), Nat.le_trans h0 hb.size, Nat.le_trans h2 hb.size, ?_⟩
  rw [hb.cell (p := ⟨8, 15, none⟩) (by show 8 < _; omega)]
  exact h3
/-- What the calls read of the error variables too. -/
def Env (w : World) : Prop := EnvT w ∧ 1 + 1 ≤ w.heap.size ∧ ∃ ev, w.cell? ⟨1, 0, none⟩ = some ev ∧ (ev = .nilIface ∨ ∃ te pe, ev = .iface te pe)
theorem Env.t {w : World} (h : Env w) : EnvT w := h.1
theorem Env.below {w w' : World} (h : Env w) (hb : Below w.heap.size w w') : Env w' := by
  obtain ⟨h1, h2, ev, h4, h5⟩ := h
  refine ⟨h1.below hb, Nat.le_trans h2 hb.size, ev, ?_, h5⟩
  rw [hb.cell (p := ⟨1, 0, none⟩) (by show 1 < _; omega)]
  exact h4

theorem tz_facts : bits .and .u64 16 (IntKind.u64.wrap (-16)) = 16 ∧ bits .and .i64 16 15 = 0 := by decide +kernel
theorem TrailingZeros64_16 (w : World) (h : w.cell? ⟨8, 15, none⟩ = some (.int .u8 4)) :
    Calls Tryz.prog 212 #[.int .u64 16] w fun e w' => e = .returned (.int .i64 4) ∧ w = w' := by
  obtain ⟨t1, t2⟩ := tz_facts
  go_enter Tryz.func212, Tryz.ntmps212
  go_wp2_with fail
  go_ret
  exact ⟨rfl, rfl⟩
theorem TrailingZeros_16 (w : World) (h : w.cell? ⟨8, 15, none⟩ = some (.int .u8 4)) :
    Calls Tryz.prog 201 #[.int .u64 16] w fun e w' => e = .returned (.int .i64 4) ∧ w = w' := by
  go_enter Tryz.func201, Tryz.ntmps201
  go_wp2_with (go_at_call 212; refine (TrailingZeros64_16 _ h).mono ?_; rintro e w1 ⟨rfl, rfl⟩)
  go_ret
  exact ⟨rfl, rfl⟩
theorem isPow_16 (w : World) :
    Calls Tryz.prog 200 #[.int .i64 16] w fun e w' => e = .returned (.bool true) ∧ w = w' := by
  obtain ⟨t1, t2⟩ := tz_facts
  go_enter Tryz.func200, Tryz.ntmps200
  go_wp2_with fail
  go_ret
  exact ⟨rfl, rfl⟩
theorem cell_of_alloc (w : World) (cs : Array Value) (t : TypeId) (i : Nat) : (w.alloc (.cells cs t)).cell? ⟨w.heap.size, i, none⟩ = cs[i]? := cell_of_row (w.alloc (.cells cs t)) w.heap.size i cs t (0, 0) (heap_alloc_new w _)
theorem z65 : (Tryz.zeroCells203).size = 65 := by kernel_rfl
theorem conv_64 (w : World) (a : Int) : (convert 26 9 (.slice (some ⟨w.heap.size, 64, none⟩) 1 1)).run Tryz.prog (w.alloc (.cells (Tryz.zeroCells203.setIfInBounds 64 (.int .u8 a)) 203)) =
    .ok (.string ⟨#[UInt8.ofNat a.toNat]⟩) (w.alloc (.cells (Tryz.zeroCells203.setIfInBounds 64 (.int .u8 a)) 203)) := by
  refine run_convert_bytes_arg (P := Tryz.prog) _ 26 5 Tryz.underlying26 Tryz.underlying5 w.heap.size 64 1 1 [a] rfl (fun i hi => ?_) 9 Tryz.underlying9
  rw [cell_of_alloc]
  obtain rfl : i = 0 := by simp at hi; omega
  have := z65
  simp [this]
theorem conv_63 (w : World) (a b : Int) : (convert 26 9 (.slice (some ⟨w.heap.size, 63, none⟩) 2 2)).run Tryz.prog (w.alloc (.cells ((Tryz.zeroCells203.setIfInBounds 64 (.int .u8 b)).setIfInBounds 63 (.int .u8 a)) 203)) =
    .ok (.string ⟨#[UInt8.ofNat a.toNat, UInt8.ofNat b.toNat]⟩) (w.alloc (.cells ((Tryz.zeroCells203.setIfInBounds 64 (.int .u8 b)).setIfInBounds 63 (.int .u8 a)) 203)) := by
  refine run_convert_bytes_arg (P := Tryz.prog) _ 26 5 Tryz.underlying26 Tryz.underlying5 w.heap.size 63 2 2 [a, b] rfl (fun i hi => ?_) 9 Tryz.underlying9
  rw [cell_of_alloc]
  have := z65
  rcases i with _ | _ | i
  · simp [this]
  · simp [this]
  · omega
theorem hx_byte : ∀ n : Fin 16, (⟨#[48, 49, 50, 51, 52, 53, 54, 55, 56, 57, 97, 98, 99, 100, 101, 102, 103, 104, 105, 106, 107, 108, 109, 110, 111, 112, 113, 114, 115, 116, 117, 118, 119, 120, 121, 122]⟩ : ByteArray)[n.val]'(Nat.lt_of_lt_of_le n.isLt (by decide)) = hx n.val := by decide +kernel
theorem formatBits_any (n : Nat) (hn : n < 128) (w : World) (h : w.cell? ⟨8, 15, none⟩ = some (.int .u8 4)) (h5 : 8 + 1 ≤ w.heap.size) :
    Calls Tryz.prog 177 #[.slice none 0 0, .int .u64 n, .int .i64 16, .bool false, .bool false] w fun e w' => e = .returned (.tuple #[.slice none 0 0, .string ⟨(hexT n).toArray⟩]) ∧ Below w.heap.size w w' := by
  obtain ⟨t1, t2⟩ := tz_facts
  have hcA : ∀ o, (w.alloc o).cell? ⟨8, 15, none⟩ = some (.int .u8 4) := fun o => by
    rw [((Below.refl w.heap.size w).alloc (Nat.le_refl _) o).cell (p := ⟨8, 15, none⟩) (by show 8 < _; omega)]; exact h
  have z64 : (w.alloc (.cells Tryz.zeroCells203 203)).cell? ⟨w.heap.size, 64, none⟩ = some (.int .u8 0) := by rw [cell_of_alloc]; kernel_rfl
  have z63 : (w.alloc (.cells Tryz.zeroCells203 203)).cell? ⟨w.heap.size, 63, none⟩ = some (.int .u8 0) := by rw [cell_of_alloc]; kernel_rfl
  have cv1 := conv_64 w
  have cv2 := conv_63 w
  have hBA : ∀ o, Below w.heap.size w (w.alloc o) := fun o => (Below.refl w.heap.size w).alloc (Nat.le_refl _) o
  have HBA := Lib.hid hBA; clear hBA
  by_cases h16 : n < 16
  · have a1 : ¬ (16 : Int) ≤ n := by omega
    have HF : Hid (hexT n = [hx n]) := by unfold Hid hexT; rw [if_pos h16]
    have HX := Lib.hid (hx_byte ⟨n, h16⟩)
    go_enter Tryz.func177, Tryz.ntmps177
    go_wp2_with (first | (go_at_call 200; refine (isPow_16 _).mono ?_; rintro e w1 ⟨rfl, rfl⟩) | (go_at_call 201; refine (TrailingZeros_16 _ (hcA _)).mono ?_; rintro e w1 ⟨rfl, rfl⟩))
    refine wp_loop_rounds 1 ?_
    rw [rounds_succ]
    go_wp2_with fail
    go_ret2
    exact ⟨by rw [HF.out, ← HX.out]; simp, HBA.out _⟩
  · have a1 : (16 : Int) ≤ n := by omega
    have HF : Hid (hexT n = [hx (n / 16), hx (n % 16)]) := by unfold Hid hexT; rw [if_neg h16]
    have HX := Lib.hid (hx_byte ⟨n % 16, by omega⟩)
    have HY := Lib.hid (hx_byte ⟨n / 16, by omega⟩)
    have m1 : bits .and .u64 (n : Int) 15 = ((n % 16 : Nat) : Int) := (show ∀ k : Fin 128, bits .and .u64 (k.val : Int) 15 = ((k.val % 16 : Nat) : Int) by decide +kernel) ⟨n, hn⟩
    go_enter Tryz.func177, Tryz.ntmps177
    go_wp2_with (first | (go_at_call 200; refine (isPow_16 _).mono ?_; rintro e w1 ⟨rfl, rfl⟩) | (go_at_call 201; refine (TrailingZeros_16 _ (hcA _)).mono ?_; rintro e w1 ⟨rfl, rfl⟩))
    refine wp_loop_rounds 2 ?_
    rw [rounds_succ]
    go_wp2_with fail
    rw [rounds_succ]
    go_wp2_with fail
    go_ret2
    exact ⟨by rw [HF.out, ← HX.out, ← HY.out]; simp, HBA.out _⟩
theorem FormatInt16_any (n : Nat) (hn : n < 128) (w : World) (he : EnvT w) :
    Calls Tryz.prog 110 #[.int .i64 n, .int .i64 16] w fun e w' => e = .returned (.string ⟨(hexT n).toArray⟩) ∧ Below w.heap.size w w' := by
  obtain ⟨-, -, h5, h⟩ := he
  have HFB := Lib.hid (formatBits_any n hn w h h5)
  have a1 : ¬ (n : Int) < 0 := by omega
  have HC : Calls Tryz.prog 142 #[.int .i64 n, .int .i64 16] w fun e w' => e = .returned (.string ⟨(hexT n).toArray⟩) ∧ Below w.heap.size w w' := by
    go_enter Tryz.func142, Tryz.ntmps142
    go_wp2_with fail
    refine HFB.out.mono ?_
    rintro e w1 ⟨rfl, hb1⟩
    go_wp2_with fail
    go_ret
    exact ⟨rfl, hb1⟩
  have HC' := Lib.hid HC
  clear HC
  go_enter Tryz.func110, Tryz.ntmps110
  go_wp2_with fail
  refine HC'.out.mono ?_
  rintro e w1 ⟨rfl, hb1⟩
  go_wp2_with fail
  go_ret
  exact ⟨rfl, hb1⟩
end Go.Proofs.YthdninnjjmhpfaaGreatDoor

namespace Go.Proofs.YthdninnjjmhpfaaGreatDoor
open Go.RowKit
set_option maxHeartbeats 1000000
set_option maxRecDepth 100000

/-- 'v = append(v, b, c, ..)': a row of bytes, the bytes just laid in a new block. -/
theorem wp_pushM {P : Program} {w1 : World} {ops : Array Oper} {rest : List Oper} {o : Oper} {a : Act} {Q : Exit → Act → World → Prop} {t u e : TypeId} {base n : Nat} {v : Value} {bs : List UInt8}
    (he : BytesT P t u e) (hgd : o.guard = none) (s x : Operand) (ho : o.op = .call { callee := .builtin .append, args := #[s, x], argTypes := #[t, t] })
    (hown : w1.ownsRow base e 1 v n (bs.map bv)) (cs : List UInt8) (us : List Value) (hus : us = cs.map bv) (m : Nat) (hm : cs.length = m) (hs : a.eval s = v) (g : Nat) (hg : w1.heap.size = g) (hx : a.eval x = .slice (some ⟨g, 0, none⟩) m m)
    (hn : n + m < 100000000000) (hbase : base ≤ w1.heap.size)
    (h : ∀ v' w', w'.ownsRow base e 1 v' (n + m) ((bs ++ cs).map bv) → w1.grownBy w' v.ownBlock → Below base w1 w' → wpList P ops Q rest (a.put o.dst v') w') :
    wpList P ops Q (o :: rest) a (w1.alloc (.cells us.toArray e)) := by
  subst hg hus hm
  obtain ⟨ht, hsz, i, z, hi, hz, hsi, hby, hzs⟩ := he.elem
  refine wpList_append_own _ hgd s x t ho base e i z 1 i.bytes ht hi hz hsi rfl hzs hsz v n _ hs (hown.alloc _) ⟨w1.heap.size, 0, none⟩ cs.length cs.length (cs.map bv) hx (by rw [List.length_map]; omega) (new_cells w1 _ e) (bv_one cs) (by simp only [maxLen]; omega) ?_ (by simp; omega) ?_
  · exact Nat.le_trans (Nat.mul_le_mul (show n + cs.length ≤ 100000000000 by omega) hby) (by decide)
  · intro v' w' hown' hg _
    have hg' : w1.grownBy w' v.ownBlock := ⟨hg.os, hg.tape, hg.output, Nat.le_trans (by simp) hg.size, fun k hk hne => (hg.block k (by simp; omega) hne).trans (heap_alloc_old w1 _ hk)⟩
    rw [← List.map_append] at hown'
    exact h v' w' hown' hg' ((Below.refl base w1).grown hg' hbase (fun k hk => (hown.lt k hk).1))

theorem bytesT : BytesT Tryz.prog 26 9 5 := bytesT_of Tryz.underlying26 Tryz.underlying9 Tryz.underlying5 (by kernel_rfl)
theorem take_snoc (s : ByteArray) (k : Nat) (h : k < s.size) : (L s).take (k + 1) = (L s).take k ++ [s[k]] := L_take_succ s k h
theorem beqB (b : UInt8) (n : Int) (h : (b.toNat : Int) = n) : ((b.toNat : Int) == n) = true := by rw [beq_iff_eq]; exact h
theorem beqNB (b : UInt8) (n : Int) (h : ¬ (b.toNat : Int) = n) : ((b.toNat : Int) == n) = false := by rw [beq_eq_false_iff_ne]; exact h
theorem u8_of {b : UInt8} {n : Nat} (h : b.toNat = n) : b = UInt8.ofNat n := by rw [← h]; simp
def quoteT (l : List UInt8) : List UInt8 := 34 :: (l.flatMap sgn ++ [34])
theorem hexT_len (n : Nat) : (hexT n).length ≤ 2 := by unfold hexT; split <;> simp
theorem quote_any (s : ByteArray) (w : World) (hs : s.size ≤ 1000000000) (he : EnvT w) :
    Calls Tryz.prog 78 #[.string s] w fun e w' => e = .returned (.string ⟨(quoteT (L s)).toArray⟩) ∧ Below w.heap.size w w' := by
  have hown0 : (w.alloc (.cells #[.int .u8 34] 5)).ownsRow w.heap.size 5 1 (.slice (some ⟨w.heap.size, 0, none⟩) 1 1) 1 ([34].map bv) := World.ownsRow_lit w #[.int .u8 34] 1 (Nat.le_refl _) (by simp only [maxLen]; decide) rfl
  have hb0 : Below w.heap.size w (w.alloc (.cells #[.int .u8 34] 5)) := (Below.refl _ w).alloc (Nat.le_refl _) _
  have HO0 := Lib.hid hown0; clear hown0
  have HE := Lib.hid he; clear he
  go_enter Tryz.func78, Tryz.ntmps78
  go_wp2_with fail
  go_loopw [3, 4, 5, 9] (fun o _ _ cnt wr => ∃ (k : Nat) (acc : List UInt8), k ≤ s.size ∧ cnt = .int .i64 k ∧ acc.length ≤ 6 * k + 1 ∧ wr.ownsRow w.heap.size 5 1 o acc.length (acc.map bv) ∧ Hid (acc = 34 :: ((L s).take k).flatMap sgn) ∧ Below w.heap.size w wr) (fun _ _ _ cnt _ => s.size - (intOf cnt).toNat)
  case atStart => exact ⟨0, [34], Nat.zero_le _, rfl, by decide, HO0.out, rfl, hb0⟩
  case round =>
    clear HO0 hb0
    obtain ⟨k, acc, hk, rfl, hal, hown, HA, hbw⟩ := hrel
    have hz := hbw.size
    by_cases hlt : k < s.size
    case neg =>
      obtain rfl : k = s.size := by omega
      have HX : Hid (quoteT (L s) = acc ++ [34]) := by
        unfold Hid
        rw [HA.out, List.take_of_length_le (by rw [L_len]; exact Nat.le_refl _)]
        rfl
      clear HA
      go_wp2_with (at_builtin; refine wp_pushM bytesT rfl _ _ rfl hown [34] [.int .u8 34] rfl 1 rfl rfl _ rfl rfl (by omega) hz ?_; intro v' w2 hown2 hg2 hb2; have hcv := conv_own bytesT hown2)
      go_ret
      exact ⟨by rw [HX.out]; rfl, hbw.trans hb2⟩
    have hstep : ∀ cs, cs = sgn s[k] → Hid (acc ++ cs = 34 :: ((L s).take (k + 1)).flatMap sgn) := by
      intro cs hcs
      unfold Hid
      rw [HA.out, hcs, take_snoc s k hlt]
      simp
    have HS := Lib.hid hstep; clear hstep HA
    obtain ⟨c, hc⟩ : ∃ c, s[k] = c := ⟨_, rfl⟩
    rw [hc] at HS
    by_cases c1 : c.toNat = 34
    · have e1 : ((s[k].toNat : Int) == 34) = true := beqB _ _ (by rw [hc]; omega)
      have HQ := HS.out [92, c] (by rw [u8_of c1]; rfl)
      rw [← hc] at HQ
      clear HS c1 hc
      go_wp2_with (at_builtin; refine wp_pushM bytesT rfl _ _ rfl hown [92, s[k]] [.int .u8 92, .int .u8 (s[k].toNat : Int)] rfl 2 rfl rfl _ rfl rfl (by omega) hz ?_; intro v' w2 hown2 hg2 hb2)
      exact ⟨⟨k + 1, _, by omega, rfl, by simp; omega, by rw [List.length_append]; exact hown2, HQ, hbw.trans hb2⟩, by simp [intOf]; omega⟩
    have e1 : ((s[k].toNat : Int) == 34) = false := beqNB _ _ (by rw [hc]; omega)
    by_cases c2 : c.toNat = 92
    · have e2 : ((s[k].toNat : Int) == 92) = true := beqB _ _ (by rw [hc]; omega)
      have HQ := HS.out [92, c] (by rw [u8_of c2]; rfl)
      rw [← hc] at HQ
      clear HS c1 c2 hc
      go_wp2_with (at_builtin; refine wp_pushM bytesT rfl _ _ rfl hown [92, s[k]] [.int .u8 92, .int .u8 (s[k].toNat : Int)] rfl 2 rfl rfl _ rfl rfl (by omega) hz ?_; intro v' w2 hown2 hg2 hb2)
      exact ⟨⟨k + 1, _, by omega, rfl, by simp; omega, by rw [List.length_append]; exact hown2, HQ, hbw.trans hb2⟩, by simp [intOf]; omega⟩
    have e2 : ((s[k].toNat : Int) == 92) = false := beqNB _ _ (by rw [hc]; omega)
    by_cases c3 : c.toNat = 10
    · have e3 : ((s[k].toNat : Int) == 10) = true := beqB _ _ (by rw [hc]; omega)
      have HQ := HS.out [92, 110] (by rw [u8_of c3]; rfl)
      clear HS c1 c2 c3 hc
      go_wp2_with (at_builtin; refine wp_pushS bytesT rfl _ _ rfl hown ⟨#[92, 110]⟩ rfl rfl (by show _ + 2 < _; omega) hz ?_; intro v' w2 hown2 hg2 hb2)
      exact ⟨⟨k + 1, _, by omega, rfl, by simp; omega, by rw [List.length_append]; exact hown2, HQ, hbw.trans hb2⟩, by simp [intOf]; omega⟩
    have e3 : ((s[k].toNat : Int) == 10) = false := beqNB _ _ (by rw [hc]; omega)
    by_cases c4 : c.toNat = 9
    · have e4 : ((s[k].toNat : Int) == 9) = true := beqB _ _ (by rw [hc]; omega)
      have HQ := HS.out [92, 116] (by rw [u8_of c4]; rfl)
      clear HS c1 c2 c3 c4 hc
      go_wp2_with (at_builtin; refine wp_pushS bytesT rfl _ _ rfl hown ⟨#[92, 116]⟩ rfl rfl (by show _ + 2 < _; omega) hz ?_; intro v' w2 hown2 hg2 hb2)
      exact ⟨⟨k + 1, _, by omega, rfl, by simp; omega, by rw [List.length_append]; exact hown2, HQ, hbw.trans hb2⟩, by simp [intOf]; omega⟩
    have e4 : ((s[k].toNat : Int) == 9) = false := beqNB _ _ (by rw [hc]; omega)
    by_cases c5 : c.toNat = 13
    · have e5 : ((s[k].toNat : Int) == 13) = true := beqB _ _ (by rw [hc]; omega)
      have HQ := HS.out [92, 114] (by rw [u8_of c5]; rfl)
      clear HS c1 c2 c3 c4 c5 hc
      go_wp2_with (at_builtin; refine wp_pushS bytesT rfl _ _ rfl hown ⟨#[92, 114]⟩ rfl rfl (by show _ + 2 < _; omega) hz ?_; intro v' w2 hown2 hg2 hb2)
      exact ⟨⟨k + 1, _, by omega, rfl, by simp; omega, by rw [List.length_append]; exact hown2, HQ, hbw.trans hb2⟩, by simp [intOf]; omega⟩
    have e5 : ((s[k].toNat : Int) == 13) = false := beqNB _ _ (by rw [hc]; omega)
    by_cases c6 : c.toNat < 32 ∨ c.toNat = 127
    · have HQ := HS.out (92 :: 117 :: 123 :: (hexT c.toNat ++ [125])) (by unfold sgn; rw [if_neg c1, if_neg c2, if_neg c3, if_neg c4, if_neg c5, if_pos c6])
      have hn : c.toNat < 128 := by omega
      have HC := Lib.hid (FormatInt16_any c.toNat hn)
      have hle := hexT_len c.toNat
      obtain ⟨H, hH⟩ : ∃ H : ByteArray, H = ⟨(hexT c.toNat).toArray⟩ := ⟨_, rfl⟩
      have hLH : L H = hexT c.toNat := by rw [hH]; rfl
      rw [← hH] at HC
      have hHs : H.size ≤ 2 := by rw [← L_len, hLH]; exact hle
      have hLT : L (⟨#[92, 117, 123]⟩ ++ H ++ ⟨#[125]⟩) = 92 :: 117 :: 123 :: (hexT c.toNat ++ [125]) := by rw [L_append, L_append, hLH]; rfl
      have hTs : (⟨#[92, 117, 123]⟩ ++ H ++ ⟨#[125]⟩ : ByteArray).size ≤ 6 := by rw [← L_len, hLT]; simp only [List.length_cons, List.length_append, List.length_nil]; omega
      rw [← hLT] at HQ
      have hLl : (L (⟨#[92, 117, 123]⟩ ++ H ++ ⟨#[125]⟩)).length ≤ 6 := by rw [L_len]; exact hTs
      have HT := Lib.hid hTs; clear hTs
      have HL2 := Lib.hid hLl; clear hLl
      rw [← hc] at HC
      have hwr : wrap64 (s[k].toNat : Int) = s[k].toNat := by unfold wrap64; rw [hc]; have := c.toNat_lt; omega
      have key : (s[k].toNat : Int) < 32 ∨ ((s[k].toNat : Int) == 127) = true ∧ ¬ (s[k].toNat : Int) < 32 := by
        rw [hc, beq_iff_eq]; omega
      clear HS c1 c2 c3 c4 c5 c6 hH hLH hLT hle hn hc
      rcases key with e6 | ⟨e6, e7⟩
      all_goals
        go_wp2_with fail
        refine (HC.out _ (HE.out.below hbw)).mono ?_
        rintro e w1 ⟨rfl, hb1⟩
        have hown1 := own_below hown hb1
        have hbw1 := hbw.trans (hb1.mono hz)
        have hz1 := hbw1.size
        clear hown
        have hT6 := HT.out
        have HS6 : Hid (acc.length + (⟨#[92, 117, 123]⟩ ++ H ++ ⟨#[125]⟩ : ByteArray).size < 100000000000000) := by unfold Hid; omega
        clear hT6
        go_wp2_with (at_builtin; refine wp_pushS bytesT rfl _ _ rfl hown1 (⟨#[92, 117, 123]⟩ ++ H ++ ⟨#[125]⟩) rfl rfl HS6.out hz1 ?_; intro v' w2 hown2 hg2 hb2)
        refine ⟨⟨k + 1, acc ++ L (⟨#[92, 117, 123]⟩ ++ H ++ ⟨#[125]⟩), by omega, rfl, ?_, ?_, HQ, hbw1.trans hb2⟩, by simp [intOf]; omega⟩
        · rw [List.length_append]; have := HL2.out; omega
        · rw [List.length_append, L_len]; exact hown2
    · have HQ := HS.out [c] (by unfold sgn; rw [if_neg c1, if_neg c2, if_neg c3, if_neg c4, if_neg c5, if_neg c6])
      have e6 : ¬ (s[k].toNat : Int) < 32 := by rw [hc]; omega
      have e7 : ((s[k].toNat : Int) == 127) = false := beqNB _ _ (by rw [hc]; omega)
      rw [← hc] at HQ
      clear HS c1 c2 c3 c4 c5 c6 hc
      go_wp2_with (at_builtin; refine wp_pushM bytesT rfl _ _ rfl hown [s[k]] [.int .u8 (s[k].toNat : Int)] rfl 1 rfl rfl _ rfl rfl (by omega) hz ?_; intro v' w2 hown2 hg2 hb2)
      exact ⟨⟨k + 1, _, by omega, rfl, by simp; omega, by rw [List.length_append]; exact hown2, HQ, hbw.trans hb2⟩, by simp [intOf]; omega⟩
end Go.Proofs.YthdninnjjmhpfaaGreatDoor

namespace Go.Proofs.YthdninnjjmhpfaaGreatDoor
open Go.RowKit
set_option maxHeartbeats 4000000
set_option maxRecDepth 100000

theorem digQ_step (n : Nat) (h : 0 < n) (acc : List UInt8) : acc ++ digQ n = (acc ++ [UInt8.ofNat (48 + n % 10)]) ++ digQ (n / 10) := by
  rw [digQ_pos n h, List.append_assoc]
  rfl
theorem reverse_nil (a : Option Addr) (cap : Nat) (w : World) :
    Calls Tryz.prog 143 #[.slice a 0 cap] w fun e w' => (∃ v, e = .returned v) ∧ w = w' := by
  go_enter Tryz.func143, Tryz.ntmps143
  go_wp2_with fail
  refine wp_loop_rounds 1 ?_
  rw [rounds_succ]
  go_wp2_with fail
  go_end0
  exact ⟨⟨_, rfl⟩, rfl⟩
theorem RevAt.rdb {w w' : World} {g cap : Nat} {l : List UInt8} (h : RevAt w w' g l l.length) (hc : l.length ≤ cap) (hm : cap ≤ maxLen) (hl : l.length ≤ 100) : RdB w' (.slice (some ⟨g, 0, none⟩) l.length cap) l.reverse := by
  obtain ⟨_, hg, cur, hx, hcu⟩ := h
  refine ⟨_, cap, by rw [List.length_reverse], by rw [List.length_reverse]; exact hc, ⟨by rw [List.length_reverse]; omega, hm⟩, (fun h => by cases h), fun _ => ⟨g, 0, rfl, hg, fun i hi j hj => ?_⟩⟩
  rw [List.length_reverse] at hi
  obtain rfl : j = 0 := by omega
  rw [Nat.zero_add, Nat.mul_one, Nat.add_zero, cell_of_row w' g i _ _ (0, 0) hx, hcu i hi, if_pos (.inl hi)]
  simp only [List.getElem?_cons_zero]
  rw [List.getD_eq_getElem?_getD, List.getD_eq_getElem?_getD, List.getElem?_reverse hi]
theorem dFromInt_any (n0 : Nat) (w : World) (hn0 : n0 < 1000000000000000) :
    Calls Tryz.prog 111 #[.int .i64 n0] w fun e w' => e = .returned (.string ⟨(numL n0).toArray⟩) ∧ Below w.heap.size w w' := by
  have HL := Lib.hid (digQ_len 15 n0 hn0)
  go_enter Tryz.func111, Tryz.ntmps111
  go_wp2_with fail
  go_loopw [0, 3] (fun nv bv' wr => ∃ (n : Nat) (acc : List UInt8), n ≤ n0 ∧ nv = .int .i64 n ∧ Hid (digQ n0 = acc ++ digQ n) ∧ Hid (wr.ownsRow w.heap.size 5 1 bv' acc.length (acc.map bv)) ∧ Below w.heap.size w wr) (fun nv _ _ => (intOf nv).toNat)
  case atStart => exact ⟨n0, [], Nat.le_refl _, rfl, rfl, World.ownsRow_nil _ _ _ _, Below.refl _ _⟩
  case round =>
    obtain ⟨n, acc, hn, rfl, HC, HO, hbw⟩ := hrel
    have hal : acc.length ≤ 15 := by have h1 := HL.out; rw [HC.out, List.length_append] at h1; omega
    rcases Nat.eq_zero_or_pos n with rfl | hp
    · have HD : Hid (digQ n0 = acc) := by unfold Hid; rw [HC.out, digQ_zero, List.append_nil]
      clear HC
      by_cases hz : acc.length = 0
      · have hacc : acc = [] := List.length_eq_zero_iff.1 hz
        have HE : Hid ((⟨#[]⟩ : ByteArray) = ⟨(numL n0).toArray⟩) := by unfold Hid numL; rw [HD.out, hacc]; rfl
        obtain ⟨a, cap, rfl, hcv⟩ : ∃ a cap, u3 = .slice a 0 cap ∧ (convert 26 9 (.slice a 0 cap)).run Tryz.prog wr = .ok (.string ⟨#[]⟩) wr := by
          have ho := HO.out
          rw [hacc] at ho
          have hr := conv_rdb (RdB.of_own (l := []) ho rfl (Nat.zero_le _))
          rcases ho.2 with ⟨h, _⟩ | ⟨g, cap, cur, h, _⟩
          · exact ⟨none, 0, h, by rw [← h]; exact hr⟩
          · exact ⟨_, cap, h, by have h' := h; simp only [List.length_nil] at h'; rw [← h']; exact hr⟩
        clear HO hz hacc HD
        go_wp2_with fail
        refine (reverse_nil _ _ _).mono ?_
        rintro e w' ⟨⟨v, rfl⟩, rfl⟩
        go_wp2_with fail
        go_ret
        exact ⟨by rw [← HE.out]; rfl, hbw⟩
      · rcases HO.out.2 with ⟨_, h⟩ | ⟨g, cap, cur, hbv, hgb, hh, hnc, hcm, _⟩
        · exact absurd h hz
        subst hbv
        have hst : RevAt wr wr g acc 0 := ⟨Below.refl _ _, (Array.getElem?_eq_some_iff.1 hh).1, cur, hh, fun j hj => by
          have h1 := World.ownsRow.cellAt HO.out j (by rw [Nat.mul_one]; exact hj)
          rw [cell_of_row wr g j _ _ (0, 0) hh] at h1
          rw [h1, if_neg (by omega), List.getElem?_map, List.getElem?_eq_getElem hj, List.getD_eq_getElem?_getD, List.getElem?_eq_getElem hj]
          rfl⟩
        have HREV := Lib.hid (reverse_any g cap acc wr (by omega) (by omega) hst)
        have HN2 : Hid ((⟨acc.reverse.toArray⟩ : ByteArray) = ⟨(numL n0).toArray⟩) := by unfold Hid numL; rw [HD.out]
        have HCM := Lib.hid hcm
        have HGB := Lib.hid hgb
        clear HO hst hh HD hcm hgb hz
        go_wp2_with fail
        refine HREV.out.mono ?_
        rintro e w2 ⟨⟨v, rfl⟩, hrv⟩
        have hcv := conv_rdb (hrv.rdb hnc HCM.out (by omega))
        have HB2 := Lib.hid (hbw.trans (hrv.1.mono HGB.out))
        clear hrv
        go_wp2_with fail
        go_ret
        exact ⟨by rw [← HN2.out]; rfl, HB2.out⟩
    · have HN := Lib.hid (HC.out.trans (digQ_step n hp acc))
      have hpi : (0 : Int) < n := by omega
      have hmod : ((n : Int) % 10) = ((n % 10 : Nat) : Int) := by omega
      obtain ⟨d, hd⟩ : ∃ d, d = n % 10 := ⟨_, rfl⟩
      rw [← hd] at hmod HN
      have hd10 : d < 10 := by omega
      have hnb : n < 1000000000000000 := by omega
      obtain ⟨c, hc⟩ : ∃ c, c = UInt8.ofNat (48 + d) := ⟨_, rfl⟩
      have hu : c.toNat = 48 + d := by rw [hc]; simp; omega
      rw [← hc] at HN
      have HUS : Hid ([Value.int .u8 (48 + (d : Int))] = [c].map bv) := by unfold Hid; show [_] = [bv c]; unfold bv; rw [hu]; rfl
      clear hc hd HC hp hu
      have hown := HO.out
      have HBW := Lib.hid hbw
      clear hbw HO
      go_wp2_with (at_builtin; refine wp_pushM bytesT rfl _ _ rfl hown [c] [.int .u8 (48 + (d : Int))] HUS.out 1 rfl rfl _ rfl rfl (by omega) HBW.out.size ?_; intro v' w2 hown2 hg2 hb2; have HO2 := Lib.hid hown2; have HB2 := Lib.hid (HBW.out.trans hb2); clear hown hown2 hg2 hb2)
      exact ⟨⟨n / 10, acc ++ [c], by omega, by go_num, HN.out, by unfold Hid; rw [List.length_append]; exact HO2.out, HB2.out⟩, by simp [intOf]; omega⟩
end Go.Proofs.YthdninnjjmhpfaaGreatDoor

namespace Go.Proofs.YthdninnjjmhpfaaGreatDoor
open Go.RowKit
set_option maxHeartbeats 4000000
set_option maxRecDepth 100000

theorem zl_app {a : List UInt8} (h : zl a = a) (hn : a ≠ []) (b : List UInt8) : zl (a ++ b) = a ++ b := by
  rcases a with _ | ⟨c, t⟩
  · exact absurd rfl hn
  · have hc : c.toNat ≠ 48 := by
      intro hc
      have h2 : zl (c :: t) = zl t := by show (if _ then _ else _) = _; rw [if_pos hc]
      rw [h2] at h
      have h3 := zl_le t
      rw [h, List.length_cons] at h3
      omega
    show (if _ then _ else _) = _
    rw [if_neg hc]
    rfl
theorem zl_numL : ∀ (k n : Nat), n < 10 ^ k → zl (numL n) = numL n
  | 0, n, h => by
    have : n = 0 := by simpa using h
    subst this
    unfold numL
    rw [digQ_zero]
    rfl
  | k + 1, n, h => by
    rcases Nat.eq_zero_or_pos n with rfl | hp
    · unfold numL; rw [digQ_zero]; rfl
    · rw [numL_pos n hp]
      by_cases h0 : n / 10 = 0
      · have hd : (UInt8.ofNat (48 + n % 10)).toNat = 48 + n % 10 := by simp; omega
        have e : numL (n / 10) = [] := by rw [h0]; unfold numL; rw [digQ_zero]; rfl
        rw [e, List.nil_append]
        show (if _ then _ else _) = _
        rw [if_neg (by rw [hd]; omega)]
      · refine zl_app (zl_numL k (n / 10) (by rw [Nat.pow_succ] at h; omega)) ?_ _
        rw [numL_pos (n / 10) (by omega)]
        simp
theorem normL_num (n : Nat) (hn : n < 1000000000000000) : normL false (numL n) 0 = normS false (numL n) 0 := by
  unfold normL
  rw [zl_numL 15 n hn]
theorem decFromInt_any (n : Nat) (w : World) (hn : n < 1000000000000000) :
    Calls Tryz.prog 80 #[.int .i64 n] w (DecOne w (normL false (numL n) 0)) := by
  have HF := Lib.hid (fun w => dFromInt_any n w hn)
  have hl : (numL n).length ≤ 15 := by unfold numL; rw [List.length_reverse]; exact digQ_len 15 n hn
  have HNM := Lib.hid (fun w => norm_any false ⟨(numL n).toArray⟩ 0 w (by show (numL n).toArray.size ≤ _; simp; omega) (by decide) (by decide))
  rw [show L ⟨(numL n).toArray⟩ = numL n from rfl, ← normL_num n hn] at HNM
  generalize normL false (numL n) 0 = r at *
  obtain ⟨rn, rs, re, rr⟩ := r
  generalize (⟨(numL n).toArray⟩ : ByteArray) = t at *
  have h0 : ¬ (n : Int) < 0 := by omega
  clear hl
  go_enter Tryz.func80, Tryz.ntmps80
  go_wp2_with fail
  refine (HF.out _).mono ?_
  rintro e w1 ⟨rfl, hb1⟩
  have HX1 := Lib.hid ((hb1.block w.heap.size (by simp)).trans (heap_alloc_new w _))
  have HB1 := Lib.hid (((Below.refl _ w).alloc (Nat.le_refl _) _).trans (hb1.mono (by simp)))
  have HZ1 : Hid (w.heap.size < w1.heap.size) := by unfold Hid; have := hb1.size; simp at this; omega
  clear hb1
  go_wp2_with fail
  refine (HNM.out _).mono ?_
  rintro e w2 ⟨rfl, hb2⟩
  have HX2 := Lib.hid ((hb2.block w.heap.size HZ1.out).trans HX1.out)
  have HB2 := Lib.hid (HB1.out.trans (hb2.mono HB1.out.size))
  have HZ2 : Hid (w.heap.size < w2.heap.size) := Nat.lt_of_lt_of_le HZ1.out hb2.size
  obtain ⟨⟨y0, y1, y2⟩, yf⟩ := box3 HX2.out
  have hz := HZ2.out
  clear hb2 HX1 HB1 HZ1
  go_wp2_with fail
  refine bodyPost_ret (v := .agg #[.bool rn, .string ⟨rs.toArray⟩, .int .i64 re]) (by simp [results, Tryz.results80, go_sem, y0, y1, y2, hz]) rfl ⟨rfl, ?_⟩
  refine Below.alloc ?_ (by have := HB2.out.size; simp; omega) _
  repeat refine Below.setCell ?_ (by dsimp only; omega) _
  exact HB2.out
theorem VInt_any (n : Nat) (w : World) (hn : n < 1000000000000000) (r : DecR) (hr : r = normL false (numL n) 0) :
    Calls Tryz.prog 37 #[.int .i64 n] w (LeafPost w (hdN r.neg ⟨r.ds.toArray⟩ r.e)) := by
  have HF := Lib.hid (fun w => decFromInt_any n w hn)
  rw [← hr] at HF
  clear hr
  obtain ⟨rn, rs, re, rr⟩ := r
  go_enter Tryz.func37, Tryz.ntmps37
  go_wp2_with fail
  refine (HF.out _).mono ?_
  rintro e w1 ⟨rfl, hb1⟩
  have HX1 := Lib.hid ((hb1.block w.heap.size (by simp)).trans (heap_alloc_new w _))
  have HB1 := Lib.hid (((Below.refl _ w).alloc (Nat.le_refl _) _).trans (hb1.mono (by simp)))
  have HZ1 : Hid (w.heap.size < w1.heap.size) := by unfold Hid; have := hb1.size; simp at this; omega
  clear hb1
  go_wp2_with fail
  refine (VNum_any _ _ _ _).mono ?_
  rintro e w2 ⟨rfl, hb2⟩
  have HX2 := Lib.hid ((hb2.block w.heap.size HZ1.out).trans HX1.out)
  have HB2 := Lib.hid (HB1.out.trans (hb2.mono HB1.out.size))
  obtain ⟨⟨y0, y1, y2, y3, y4, y5, y6, y7, y8, y9, y10, y11, y12⟩, yf⟩ := box13 HX2.out
  clear hb2 HX1 HB1 HZ1
  go_wp2_with fail
  refine bodyPost_ret (v := aggV ⟨hdN rn ⟨rs.toArray⟩ re, .slice none 0 0, .slice none 0 0, .slice none 0 0⟩) (by simp [results, Tryz.results37, go_sem, y0, y1, y2, y3, y4, y5, y6, y7, y8, y9, y10, y11, y12]) rfl ⟨rfl, ?_⟩
  repeat refine Below.setCell ?_ (by dsimp only; omega) _
  exact HB2.out
end Go.Proofs.YthdninnjjmhpfaaGreatDoor

namespace Go.Proofs.YthdninnjjmhpfaaGreatDoor
open Go.RowKit
set_option maxHeartbeats 1000000
set_option maxRecDepth 100000

abbrev hdK (k : Int) : Hd := ⟨k, false, false, ⟨#[]⟩, 0, 0, 0, 0, 0, ⟨#[]⟩, []⟩
theorem okK (k : Int) (hk : I64 k) : HdOk (hdK k) := ⟨hk, i64_0, i64_0, i64_0, i64_0, i64_0, emp_le, emp_le, Nat.zero_le _⟩
def vT (s : ByteArray) : V := .mk (hdT s) [] []
def intR (n : Int) : DecR := normL false (numL n.toNat) 0
def vI (n : Int) : V := .mk (hdN (intR n).neg ⟨(intR n).ds.toArray⟩ (intR n).e) [] []
/-- The names of the fields. -/
def kOp : ByteArray := ⟨#[111, 112]⟩
def kPath : ByteArray := ⟨#[112, 97, 116, 104]⟩
def kAt : ByteArray := ⟨#[97, 116]⟩
def kOld : ByteArray := ⟨#[111, 108, 100]⟩
def kNew : ByteArray := ⟨#[110, 101, 119]⟩
def keyB (x : Ch) : Bool := movB x.op && lastK x.p
def wr2 (x : Ch) : List (ByteArray × V) := [(kOp, vT (nameS x.op)), (kPath, vT ⟨(textL x.p).toArray⟩)]
def wr3 (x : Ch) : List (ByteArray × V) := wr2 x ++ if keyB x = true then [(kAt, vI x.pos)] else []
def wr4 (x : Ch) : List (ByteArray × V) := wr3 x ++ if oldB x.op = true then [(kOld, x.o)] else []
def wr5 (x : Ch) : List (ByteArray × V) := wr4 x ++ if newB x.op = true then [(kNew, x.n)] else []
def wrV (x : Ch) : V := .mk (hdK 7) [] (wr5 x)
def wrL (xs : List Ch) : V := .mk (hdK 6) (xs.map wrV) []
def v0 : V := .mk (hdK 0) [] []
/-- What Write answers. -/
def wrR (xs : List Ch) : V × Nat := if (firstL xs).2 ≠ 0 then (v0, (firstL xs).2) else if checkV (wrL xs) ≠ 0 then (v0, checkV (wrL xs)) else (wrL xs, 0)

/-- The row o of one's own reads as the list l, whose elements lie in blocks of T, not in the row's own. -/
def OwnN {α β : Type} (e : TypeId) (size : Nat) (cells : β → List Value) (rd : World → (Nat → Prop) → β → α → Prop) (T : Nat → Prop) (w : World) (base : Nat) (o : Value) (l : List α) : Prop :=
  ∃ cs : List β, cs.length = l.length ∧ w.ownsRow base e size o l.length (cs.flatMap cells) ∧ ∀ i (h : i < l.length) (h' : i < cs.length), rd w (fun b => T b ∧ some b ≠ o.ownBlock) cs[i] l[i]
section
variable {α β : Type} {e : TypeId} {size : Nat} {cells : β → List Value} {rd : World → (Nat → Prop) → β → α → Prop} {T : Nat → Prop}
theorem OwnN.nil {w : World} {base : Nat} : OwnN e size cells rd T w base (.slice none 0 0) ([] : List α) :=
  ⟨[], rfl, World.ownsRow_nil _ _ _ _, fun _ h => absurd h (Nat.not_lt_zero _)⟩
theorem OwnN.blk {w : World} {base : Nat} {o : Value} {l : List α} (h : OwnN e size cells rd T w base o l) : ∀ b, o.ownBlock = some b → base ≤ b ∧ b < w.heap.size := by
  obtain ⟨_, _, ho, _⟩ := h
  exact fun b hb => ho.lt b hb
theorem OwnN.below (hs : Stb rd) {w w' : World} {base : Nat} {o : Value} {l : List α} (h : OwnN e size cells rd T w base o l) (hb : Below w.heap.size w w') : OwnN e size cells rd T w' base o l := by
  obtain ⟨cs, hc, hown, hrd⟩ := h
  exact ⟨cs, hc, own_below hown hb, fun i hi hi' => hs.mono (hs.kept (hrd i hi hi') (fun b _ hb' => hb.block b hb') hb.size) (fun b h => h.1)⟩
/-- A store into another block. -/
theorem OwnN.set (hs : Stb rd) {w w' : World} {base g : Nat} {o : Value} {l : List α} (h : OwnN e size cells rd T w base o l) (hg : w.grownBy w' (some g)) (hb : g < base) (hT : ¬ T g) : OwnN e size cells rd T w' base o l := by
  obtain ⟨cs, hc, hown, hrd⟩ := h
  refine ⟨cs, hc, hown.kept hg ?_, fun i hi hi' => hs.mono (hs.kept (hrd i hi hi') (fun b hbT hb' => hg.block b hb' (fun he => ?_)) hg.size) (fun b h => h.1)⟩
  · cases ho : o.ownBlock with
    | none => exact .inl rfl
    | some k =>
      refine .inr (fun he => ?_)
      have := (hown.lt k ho).1
      simp only [Option.some.injEq] at he
      omega
  · simp only [Option.some.injEq] at he
    subst he
    exact hT hbT.1
theorem OwnN.push (hs : Stb rd) {w w' : World} {base : Nat} {o o' : Value} {l : List α} {cs : List β} (hc : cs.length = l.length) (hrd : ∀ i (h : i < l.length) (h' : i < cs.length), rd w (fun b => T b ∧ some b ≠ o.ownBlock) cs[i] l[i])
    {c : β} {x : α} (hx : rd w (fun b => T b ∧ some b ≠ o.ownBlock) c x) (hown : w'.ownsRow base e size o' (l.length + 1) (cs.flatMap cells ++ cells c)) (hg : ∀ b, T b → b < w.heap.size → some b ≠ o.ownBlock → w'.heap[b]? = w.heap[b]?) (hz : w.heap.size ≤ w'.heap.size) (hf : FreshRow w o o') : OwnN e size cells rd T w' base o' (l ++ [x]) := by
  have key : ∀ {c x}, rd w (fun b => T b ∧ some b ≠ o.ownBlock) c x → rd w' (fun b => T b ∧ some b ≠ o'.ownBlock) c x := by
    intro c x h
    refine hs.mono (hs.kept h (fun b hb hb' => hg b hb.1 hb' hb.2) hz) (fun b hb => ⟨hb.1.1, ?_⟩)
    rcases hf with hf | hf
    · rw [hf]; exact hb.1.2
    · intro h'
      have := hf b h'.symm
      have := hb.2
      omega
  refine ⟨cs ++ [c], by simp [hc], ?_, fun i hi hi' => ?_⟩
  · rw [List.length_append, List.flatMap_append]
    simpa using hown
  · rw [List.length_append] at hi hi'
    simp only [List.length_cons, List.length_nil] at hi hi'
    by_cases h : i < l.length
    · rw [List.getElem_append_left h, List.getElem_append_left (by omega)]
      exact key (hrd i h (by omega))
    · have : i = l.length := by omega
      subst this
      rw [List.getElem_append_right (by omega), List.getElem_append_right (by omega)]
      simp only [Nat.sub_self, hc, List.getElem_cons_zero]
      exact key hx
theorem OwnN.sl (hs : Stb rd) (hz : ∀ c, (cells c).length = size) (d : β) {w : World} {base : Nat} {o : Value} {l : List α} (h : OwnN e size cells rd T w base o l) (hl : l.length ≤ 140737488351232) {S : Nat → Prop} (hT : ∀ b, T b → S b) (hB : ∀ b, base ≤ b → b < w.heap.size → S b) :
    ∃ lc : Nat → β, Sl w o l.length size (fun i => cells (lc i)) ∧ (∀ i (h : i < l.length), rd w S (lc i) l[i]) ∧ BlkIn S o := by
  obtain ⟨cs, hc, hown, hrd⟩ := h
  refine ⟨fun i => cs.getD i d, ?_, fun i hi => ?_, ?_⟩
  · rw [← hc]
    rw [← hc] at hown
    exact Sl.of_own cells hz cs hown (by omega) _ (fun i hi => by dsimp only; rw [List.getD_eq_getElem?_getD, List.getElem?_eq_getElem hi]; rfl)
  · have h1 : cs.getD i d = cs[i] := by rw [List.getD_eq_getElem?_getD, List.getElem?_eq_getElem (by omega)]; rfl
    dsimp only
    rw [h1]
    exact hs.mono (hrd i hi (by omega)) (fun b h => hT b h.1)
  · intro g q p n cap hv _
    have := hown.lt g (by rw [hv]; rfl)
    exact hB g this.1 this.2
end
/-- Not the box, and either old or behind it. -/
abbrev TB (B g : Nat) (b : Nat) : Prop := b < B ∨ g < b
/-- The block g holds a map whose fields are the row F. -/
def MapAt (w : World) (g B : Nat) (F : Value) (fl : List (ByteArray × V)) : Prop :=
  w.heap[g]? = some (.cells (VC.cells ⟨hdK 7, .slice none 0 0, .slice none 0 0, F⟩).toArray 30 (0, 0)) ∧ OwnN 67 14 fcells RdF (TB B g) w (g + 1) F fl
theorem MapAt.lt {w : World} {g B : Nat} {F : Value} {fl : List (ByteArray × V)} (h : MapAt w g B F fl) : g < w.heap.size := by
  rcases Nat.lt_or_ge g w.heap.size with h' | h'
  · exact h'
  · have := h.1
    rw [Array.getElem?_eq_none h'] at this
    cases this
theorem MapAt.below {w w' : World} {g B : Nat} {F : Value} {fl : List (ByteArray × V)} (h : MapAt w g B F fl) (hb : Below w.heap.size w w') : MapAt w' g B F fl :=
  ⟨(hb.block g h.lt).trans h.1, h.2.below stbF hb⟩
/-- The map, read. -/
theorem MapAt.rd {w : World} {g B : Nat} {F : Value} {fl : List (ByteArray × V)} (h : MapAt w g B F fl) (hl : fl.length ≤ 140737488351232) {S : Nat → Prop} (hT : ∀ b, TB B g b → S b) : RdI w S ⟨hdK 7, .slice none 0 0, .slice none 0 0, F⟩ (.mk (hdK 7) [] fl) := by
  have nb : ∀ S : Nat → Prop, BlkIn S (.slice none 0 0) := fun S g o p n cap hv _ => by cases hv
  obtain ⟨fc, h1, h2, h3⟩ := h.2.sl stbF fcells_len (⟨#[]⟩, ⟨hdK 0, .slice none 0 0, .slice none 0 0, .slice none 0 0⟩) hl (S := S) hT (fun b hb _ => hT b (.inr hb))
  exact RdI.of_rows (okK 7 ⟨by decide, by decide⟩) Sl.nil (nb _) ⟨fun _ => ⟨hdK 0, .slice none 0 0, .slice none 0 0, .slice none 0 0⟩, Sl.nil, fun i hi => absurd hi (Nat.not_lt_zero _), nb _⟩ ⟨fc, h1, h2, h3⟩
end Go.Proofs.YthdninnjjmhpfaaGreatDoor

namespace Go.Proofs.YthdninnjjmhpfaaGreatDoor
open Go.RowKit
set_option maxHeartbeats 4000000
set_option maxRecDepth 100000

section
variable {P : Program} {ops : Array Oper} {o : Oper} {a : Act} {w : World} {S : World → Prop}
theorem yl_load {ty : TypeId} {m : Nat} {cs : List Value} (ht : StT P ty m) (hm : cs.length = m) (g off : Nat) (hc : ∀ w, S w → ∀ j, j < m → w.cell? ⟨g, off + j, none⟩ = cs[j]?) (hw : Region.wanted o (yielded ops a.tmps) = true) (x : Operand) (ho : o.op = .load ty x) (hx : a.eval x = .pointer (some ⟨g, off, none⟩)) :
    YieldsIf P ops S o (.agg cs.toArray) a := by
  refine .inl ⟨hw, fun w hS => ?_⟩
  unfold execOp
  simp only [ho, hx, Instr.loadAt, Instr.sureAddr, Sem.run_bind, Sem.run_pure, Result.andThen_ok, run_load_cells ht hm (addr_cells hm (hc w hS))]
theorem take_at {Q : Exit → Act → World → Prop} {md : Region.Mode} {oi : Oper} {v : Value} {fuel : Nat} {listed : Array Bool} (i : Nat) (d : Option Tmp) (hi : ops[i]? = some oi) (hd : oi.dst = d) (hs : Region.noSelect ops = true) (hf : Region.free md ops listed i = true) (hr : (Region.ready md ops listed).contains i = true)
    (hQ : ∀ c a w, Q (.panic c) (a.put d v) w → Q (.panic c) a w) (hy : YieldsIf P ops S oi v a) (hS : S w) (h : wpAnyH P md ops Q S fuel (listed.setIfInBounds i true) (a.put d v) w) : wpAnyH P md ops Q S (fuel + 1) listed a w := by
  subst hd
  exact wpAnyH_take hi hs hf hr hQ hy hS h
/-- A store into a block that is known whole, in such a region. -/
theorem step_store {K : Act → World → Prop} {Q : Exit → Act → World → Prop} {E : Prop} {ty : TypeId} {m : Nat} {v : Value} {cs cur : List Value} (row : List Value) (hw : Region.wanted o (yielded ops a.tmps) = true) (x y : Operand) (ho : o.op = .store ty x y) (hi : (P.info? ty).map (·.size) = some m) (g off : Nat) (hx : a.eval x = .pointer (some ⟨g, off, none⟩)) (hy : a.eval y = v) (hv : v.cells.toList = cs) (hm : cs.length = m) (h1 : ∀ u ∈ cs, u.oneCell' = true)
    {t : TypeId} (hg : w.heap[g]? = some (.cells cur.toArray t (0, 0))) (hfit : off + m ≤ cur.length) (hrow : cur.take off ++ cs ++ cur.drop (off + m) = row)
    (h : K (a.put o.dst undef) (w.setRow g row.toArray)) : if Region.wanted o (yielded ops a.tmps) = true then Oper.wp P o a w K Q else E := by
  subst hrow
  rw [if_pos hw]
  unfold Oper.wp execOp
  simp only [ho, hx, hy, Instr.storeAt, Instr.sureAddr, Sem.run_bind, Sem.run_pure, Result.andThen_ok, run_store_v hi hv hm h1 g off hg hfit]
  exact h
end
/-- The last element of a row of one's own, stored anew. -/
theorem own_last {w : World} {base size n : Nat} {e : TypeId} {v : Value} {xs zs cs : List Value} (h : w.ownsRow base e size v (n + 1) (xs ++ zs)) (h0 : 0 < size) (hx : xs.length = n * size) (hz : zs.length = size) (hc : cs.length = size) :
    ∃ (g cap : Nat) (cur : List Value), v = .slice (some ⟨g, 0, none⟩) (n + 1) cap ∧ base ≤ g ∧ g < w.heap.size ∧ n < cap ∧ cap ≤ maxLen ∧ w.heap[g]? = some (.cells cur.toArray e (0, 0)) ∧ n * size + size ≤ cur.length ∧ cur.length = cap * size ∧
      ∀ w' : World, w'.heap[g]? = some (.cells (cur.take (n * size) ++ cs ++ cur.drop (n * size + size)).toArray e (0, 0)) → w'.ownsRow base e size v (n + 1) (xs ++ cs) := by
  have hlen := h.1
  rcases h.2 with ⟨rfl, h00⟩ | ⟨g, cap, cur, rfl, hb, hh, hnc, hcm, hsz, htk⟩
  · exact absurd h00 (Nat.succ_ne_zero n)
  · have hfit : n * size + size ≤ cur.toList.length := by
      rw [Array.length_toList, hsz, ← Nat.succ_mul]
      exact Nat.mul_le_mul_right _ hnc
    refine ⟨g, cap, cur.toList, rfl, hb, (h.lt g rfl).2, hnc, hcm, by simpa using hh, hfit, by simpa using hsz, fun w' hw' => ⟨by simp only [List.length_append, hx, hc, Nat.succ_mul], .inr ⟨g, cap, _, rfl, hb, hw', hnc, hcm, ?_, ?_⟩⟩⟩
    · have h1 := hsz
      rw [← Array.length_toList] at h1
      simp only [List.size_toArray, List.length_append, List.length_take, List.length_drop, hc]
      omega
    · have hk : (cur.toList.take (n * size)) = xs := by
        have h1 : cur.toList.take ((n + 1) * size) = xs ++ zs := htk
        have h2 := congrArg (List.take (n * size)) h1
        rw [List.take_take, Nat.min_eq_left (Nat.mul_le_mul_right _ (Nat.le_succ n)), List.take_append_of_le_length (by omega), (show xs.take (n * size) = xs from List.take_of_length_le (by omega))] at h2
        exact h2
      show (List.toArray _).toList.take ((n + 1) * size) = _
      rw [hk, List.take_append_of_le_length (by simp only [List.length_append, hx, hc, Nat.succ_mul]; omega), List.take_of_length_le (by simp only [List.length_append, hx, hc, Nat.succ_mul]; omega)]
theorem st28 : (Tryz.prog.info? 28).map (·.size) = some 1 := by kernel_rfl
/-- What the closure add does. -/
def AddPost (w : World) (g B : Nat) (fl : List (ByteArray × V)) (e : Ending) (w' : World) : Prop := ∃ F', e = .returned (.tuple #[]) ∧ MapAt w' g B F' fl ∧ Below g w w'
theorem add_any (key : ByteArray) (c : VC) (x : V) (w : World) (g B : Nat) (F : Value) (fl : List (ByteArray × V)) (hm : MapAt w g B F fl) (hB : B ≤ g) (hk : key.size ≤ 1000000000) (hl : fl.length < 1000) (hx : RdI w (fun b => TB B g b ∧ some b ≠ F.ownBlock) c x) :
    Calls Tryz.prog 32 #[.string key, aggV c, .pointer (some ⟨g, 0, none⟩)] w (AddPost w g B (fl ++ [(key, x)])) := by
  have hgl := hm.lt
  obtain ⟨cs, hcl, hown, hrds⟩ := hm.2
  obtain ⟨va, vcap, rfl⟩ := own_form hown
  have HM := Lib.hid hm
  have HX := Lib.hid hx
  have HOWN := Lib.hid hown
  have HRS := Lib.hid hrds
  obtain ⟨⟨-, -, -, -, -, -, -, -, -, -, -, -, x12⟩, -⟩ := box13 hm.1
  have HONE := Lib.hid (vc_one hx.any)
  obtain ⟨⟨p0, p1, p2, p3, p4, p5, p6, p7, p8, p9, p10⟩, q1, q2, q3, n1, n2, n3, m1, m2, m3, rfl⟩ := hx.forms
  clear hm hx hown hrds
  go_enter Tryz.func32, Tryz.ntmps32
  go_wp2_with fail
  generalize hW : World.alloc w _ = w1
  obtain ⟨ha1, -, hz1, hb1⟩ := alloc_of hW
  have HA1 := Lib.hid ha1
  have HB1 := Lib.hid hb1
  have x12 := (hb1.cell (p := ⟨g, 12, none⟩) hgl).trans x12
  clear hW ha1 hb1
  refine wp_region_held_drew (S := fun w' => ∀ j, j < 13 → w'.cell? ⟨w.heap.size, 0 + j, none⟩ = (VC.cells ⟨⟨p0, p1, p2, p3, p4, p5, p6, p7, p8, p9, p10⟩, .slice q1 n1 m1, .slice q2 n2 m2, .slice q3 n3 m3⟩)[j]?) (by kernel_rfl) (rowV HA1.out) (fun hHeld => ?_)
  have HB2 := Lib.hid HB1.out.drew
  have hz2 : w1.drew.heap.size = w.heap.size + 1 := hz1
  have x12 : w1.drew.cell? ⟨g, 12, none⟩ = some (.slice va fl.length vcap) := x12
  generalize w1.drew = w2 at *
  clear HA1 HB1 hz1
  refine take_at 0 (some 5) rfl rfl (by kernel_rfl) (by kernel_rfl) (by kernel_rfl) (fun _ _ _ h => h) (Or.inl ⟨by rfl, fun w hSw => by (go_simp; with_reducible rfl)⟩) hHeld ?_
  simp only [Act.put, List.setIfInBounds_toArray, List.set_cons_zero, List.set_cons_succ]
  refine take_at 2 (some 7) rfl rfl (by kernel_rfl) (by kernel_rfl) (by kernel_rfl) (fun _ _ _ h => h) (Or.inl ⟨by rfl, fun w hSw => by (go_simp; with_reducible rfl)⟩) hHeld ?_
  simp only [Act.put, List.setIfInBounds_toArray, List.set_cons_zero, List.set_cons_succ]
  refine take_at 3 (some 8) rfl rfl (by kernel_rfl) (by kernel_rfl) (by kernel_rfl) (fun _ _ _ h => h) (yl_load (cs := [.int .i64 p0, .bool p1, .bool p2, .string p3, .int .i64 p4, .int .i64 p5, .int .i64 p6, .int .i64 p7, .int .i64 p8, .string p9, .slice q1 n1 m1, .slice q2 n2 m2, .slice q3 n3 m3]) stVk rfl _ _ (fun w hS => hS) rfl _ rfl rfl) hHeld ?_
  simp only [Act.put, List.setIfInBounds_toArray, List.set_cons_zero, List.set_cons_succ]
  refine take_at 4 (some 9) rfl rfl (by kernel_rfl) (by kernel_rfl) (by kernel_rfl) (fun _ _ _ h => h) (Or.inl ⟨by rfl, fun w hSw => by (go_simp; with_reducible rfl)⟩) hHeld ?_
  simp only [Act.put, List.setIfInBounds_toArray, List.set_cons_zero, List.set_cons_succ]
  refine wpAnyH_ready (rs := [1, 6]) (by kernel_rfl) (by simp) ?_
  have HS2 : Hid (∀ j, j < 13 → (w2.alloc (.cells #[.string ⟨#[]⟩, .int .i64 0, .bool false, .bool false, .string ⟨#[]⟩, .int .i64 0, .int .i64 0, .int .i64 0, .int .i64 0, .int .i64 0, .string ⟨#[]⟩, .slice none 0 0, .slice none 0 0, .slice none 0 0] 67)).cell? ⟨w.heap.size, 0 + j, none⟩ = ([.int .i64 p0, .bool p1, .bool p2, .string p3, .int .i64 p4, .int .i64 p5, .int .i64 p6, .int .i64 p7, .int .i64 p8, .string p9, .slice q1 n1 m1, .slice q2 n2 m2, .slice q3 n3 m3] : List Value)[j]?) := fun j hj => (World.cell?_alloc_lt _ _ _ (by dsimp only; omega)).trans (hHeld j hj)
  have x12' : (w2.alloc (.cells #[.string ⟨#[]⟩, .int .i64 0, .bool false, .bool false, .string ⟨#[]⟩, .int .i64 0, .int .i64 0, .int .i64 0, .int .i64 0, .int .i64 0, .string ⟨#[]⟩, .slice none 0 0, .slice none 0 0, .slice none 0 0] 67)).cell? ⟨g, 12, none⟩ = some (.slice va fl.length vcap) := (World.cell?_alloc_lt _ _ _ (by dsimp only; omega)).trans x12
  refine AllReadyH.cons rfl (fun K hK => ?_) (AllReadyH.cons rfl (fun K hK => ?_) AllReadyH.nil)
  all_goals go_simp
  all_goals first
    | (refine hK.out _ _ hHeld (fun hHeld => ?_)
       clear hK K
       refine take_at 5 (some 10) rfl rfl (by kernel_rfl) (by kernel_rfl) (by kernel_rfl) (fun _ _ _ h => h) (Or.inl ⟨by rfl, fun w hSw => by (go_simp; with_reducible rfl)⟩) hHeld ?_
       simp only [Act.put, List.setIfInBounds_toArray, List.set_cons_zero, List.set_cons_succ]
       refine wpAnyH_ready (rs := [6]) (by kernel_rfl) (by simp) ?_
       refine AllReadyH.cons rfl (fun K hK => ?_) AllReadyH.nil
       go_simp
       refine hK.out _ _ HS2.out (fun hHeld => ?_)
       clear hK K)
    | (refine hK.out _ _ HS2.out (fun hHeld => ?_)
       clear hK K
       refine wpAnyH_ready (rs := [1]) (by kernel_rfl) (by simp) ?_
       refine AllReadyH.cons rfl (fun K hK => ?_) AllReadyH.nil
       go_simp
       refine hK.out _ _ HS2.out (fun hHeld => ?_)
       clear hK K
       refine take_at 5 (some 10) rfl rfl (by kernel_rfl) (by kernel_rfl) (by kernel_rfl) (fun _ _ _ h => h) (Or.inl ⟨by rfl, fun w hSw => by (go_simp; with_reducible rfl)⟩) hHeld ?_
       simp only [Act.put, List.setIfInBounds_toArray, List.set_cons_zero, List.set_cons_succ])
  all_goals
    refine wpAnyH_ready (rs := [7]) (by kernel_rfl) (by simp) ?_
    refine AllReadyH.cons rfl (fun K hK => ?_) AllReadyH.nil
    refine step_push2 elemF (by rfl) _ _ (by rfl) (own_below HOWN.out HB2.out) [.string ⟨#[]⟩, .int .i64 0, .bool false, .bool false, .string ⟨#[]⟩, .int .i64 0, .int .i64 0, .int .i64 0, .int .i64 0, .int .i64 0, .string ⟨#[]⟩, .slice none 0 0, .slice none 0 0, .slice none 0 0] (by rfl) (by simp [Value.oneCell']) (by rfl) (by simp [Act.eval, hz2]) (by omega) (by omega) ?_
    intro v' w5 hown5 hg5 hb5 hf5 hk5
    have hne : some w.heap.size ≠ (Value.slice va fl.length vcap).ownBlock := fun h => by have := (HOWN.out.lt _ h.symm).2; omega
    refine hK.out _ _ (fun j hj => (hk5 _ _ hne (by omega)).trans (HS2.out j hj)) (fun hHeld => ?_)
    clear hK K
    have hgo : some g ≠ (Value.slice va fl.length vcap).ownBlock := fun h => by have := (HOWN.out.lt _ h.symm).1; omega
    have hG5 := (hg5.block g (by omega) hgo).trans ((HB2.out.block g hgl).trans HM.out.1)
    have hgz := hg5.size
    obtain ⟨g5, cap5, cur5, rfl, hgb5, hgz5, hn5, hcm5, hh5, hfit5, hlen5, hlast⟩ := own_last (cs := fcells (key, ⟨⟨p0, p1, p2, p3, p4, p5, p6, p7, p8, p9, p10⟩, .slice q1 n1 m1, .slice q2 n2 m2, .slice q3 n3 m3⟩)) hown5 (by decide) HOWN.out.1 rfl rfl
    have HH5 := Lib.hid hh5
    have HG5 := Lib.hid hG5
    have HLAST := Lib.hid hlast
    have HF5 := Lib.hid hf5
    have hb0 : (0 : Int) ≤ (fl.length : Int) := by omega
    have hb1 : (fl.length : Int) < (fl.length : Int) + 1 := by omega
    clear hh5 hG5 hlast hf5 hk5 hown5 hlen5
    refine take_at 8 (some 13) rfl rfl (by kernel_rfl) (by kernel_rfl) (by kernel_rfl) (fun _ _ _ h => h) (Or.inl ⟨by rfl, fun w hSw => by (go_simp; with_reducible rfl)⟩) hHeld ?_
    simp only [Act.put, List.setIfInBounds_toArray]
    refine take_at 10 (some 14) rfl rfl (by kernel_rfl) (by kernel_rfl) (by kernel_rfl) (fun _ _ _ h => h) (Or.inl ⟨by rfl, fun w hSw => by (go_simp; with_reducible rfl)⟩) hHeld ?_
    simp only [Act.put]
    refine wpAnyH_ready (rs := [9, 11]) (by kernel_rfl) (by simp) ?_
    have hgg : g5 ≠ g := by omega
    have hgw : w.heap.size ≠ g := by omega
    have hg5w : w.heap.size ≠ g5 := by
      rcases HF5.out with h | h
      · intro hh
        have := (HOWN.out.lt g5 (h.symm.trans rfl)).2
        omega
      · have := h g5 rfl
        omega
    have HKEY : ∀ u ∈ (fcells (key, ⟨⟨p0, p1, p2, p3, p4, p5, p6, p7, p8, p9, p10⟩, .slice q1 n1 m1, .slice q2 n2 m2, .slice q3 n3 m3⟩)), u.oneCell' = true := by
      intro u hu
      rcases List.mem_cons.1 hu with rfl | hu
      · rfl
      · exact HONE.out u hu
    refine AllReadyH.cons rfl (fun K hK => ?_) (AllReadyH.cons rfl (fun K hK => ?_) AllReadyH.nil)
  all_goals first
    | (refine step_store (cs := (fcells (key, ⟨⟨p0, p1, p2, p3, p4, p5, p6, p7, p8, p9, p10⟩, .slice q1 n1 m1, .slice q2 n2 m2, .slice q3 n3 m3⟩))) _ rfl _ _ rfl stF.2 g5 (fl.length * 14) rfl rfl rfl rfl HKEY HH5.out hfit5 rfl ?_
       generalize hW6 : World.setRow _ _ _ = w6
       obtain ⟨hr6, ho6, hz6, hb6⟩ := setRow_of hW6 HH5.out
       refine hK.out _ _ (fun j hj => (World.cell?_of_block (ho6 _ hg5w)).trans (hHeld j hj)) (fun hHeld => ?_)
       clear hK K hW6
       refine wpAnyH_ready (rs := [11]) (by kernel_rfl) (by simp) ?_
       refine AllReadyH.cons rfl (fun K hK => ?_) AllReadyH.nil
       refine step_store (cs := [.slice (some ⟨g5, 0, none⟩) (fl.length + 1) cap5]) _ rfl _ _ rfl st28 g 12 rfl rfl rfl rfl (by intro u hu; rw [List.mem_singleton.1 hu]; rfl) ((ho6 g hgg.symm).trans HG5.out) (Nat.le_refl 13) rfl ?_
       generalize hW7 : World.setRow _ _ _ = w7
       obtain ⟨hr7, ho7, hz7, hb7⟩ := setRow_of hW7 ((ho6 g hgg.symm).trans HG5.out)
       refine hK.out _ _ (fun j hj => (World.cell?_of_block (ho7 _ hgw)).trans (hHeld j hj)) (fun hHeld => ?_)
       clear hK K hW7
       clear hHeld
       replace hr6 := (ho7 g5 hgg).trans hr6
       have hoo : ∀ b, b ≠ g → b ≠ g5 → w7.heap[b]? = w5.heap[b]? := fun b h1 h2 => (ho7 b h1).trans (ho6 b h2)
       have hbb : Below g w5 w7 := (hb6 g (by omega)).trans (hb7 g (Nat.le_refl _))
       clear ho6 ho7 hb6 hb7)
    | (refine step_store (cs := [.slice (some ⟨g5, 0, none⟩) (fl.length + 1) cap5]) _ rfl _ _ rfl st28 g 12 rfl rfl rfl rfl (by intro u hu; rw [List.mem_singleton.1 hu]; rfl) HG5.out (Nat.le_refl 13) rfl ?_
       generalize hW6 : World.setRow _ _ _ = w6
       obtain ⟨hr6, ho6, hz6, hb6⟩ := setRow_of hW6 HG5.out
       refine hK.out _ _ (fun j hj => (World.cell?_of_block (ho6 _ hgw)).trans (hHeld j hj)) (fun hHeld => ?_)
       clear hK K hW6
       refine wpAnyH_ready (rs := [9]) (by kernel_rfl) (by simp) ?_
       refine AllReadyH.cons rfl (fun K hK => ?_) AllReadyH.nil
       refine step_store (cs := (fcells (key, ⟨⟨p0, p1, p2, p3, p4, p5, p6, p7, p8, p9, p10⟩, .slice q1 n1 m1, .slice q2 n2 m2, .slice q3 n3 m3⟩))) _ rfl _ _ rfl stF.2 g5 (fl.length * 14) rfl rfl rfl rfl HKEY ((ho6 g5 hgg).trans HH5.out) hfit5 rfl ?_
       generalize hW7 : World.setRow _ _ _ = w7
       obtain ⟨hr7, ho7, hz7, hb7⟩ := setRow_of hW7 ((ho6 g5 hgg).trans HH5.out)
       refine hK.out _ _ (fun j hj => (World.cell?_of_block (ho7 _ hg5w)).trans (hHeld j hj)) (fun hHeld => ?_)
       clear hK K hW7
       clear hHeld
       replace hr6 := (ho7 g hgg.symm).trans hr6
       have hrx := hr6
       replace hr6 := hr7
       replace hr7 := hrx
       clear hrx
       have hoo : ∀ b, b ≠ g → b ≠ g5 → w7.heap[b]? = w5.heap[b]? := fun b h1 h2 => (ho7 b h2).trans (ho6 b h1)
       have hbb : Below g w5 w7 := (hb6 g (Nat.le_refl _)).trans (hb7 g (by omega))
       clear ho6 ho7 hb6 hb7)
  all_goals
    have hfin : AddPost w g B (fl ++ [(key, x)]) (.returned (.tuple #[])) w7 := by
      refine ⟨.slice (some ⟨g5, 0, none⟩) (fl.length + 1) cap5, rfl, ⟨hr7, OwnN.push stbF hcl HRS.out (c := (key, ⟨⟨p0, p1, p2, p3, p4, p5, p6, p7, p8, p9, p10⟩, .slice q1 n1 m1, .slice q2 n2 m2, .slice q3 n3 m3⟩)) (x := (key, x)) ⟨rfl, hk, HX.out⟩ (HLAST.out w7 hr6) (fun b hT hb hne => ?_) (by omega) ?_⟩, ?_⟩
      · have hb5 : b ≠ g5 := by
          rintro rfl
          rcases HF5.out with h | h
          · exact hne (h.symm.trans rfl).symm
          · have := h b rfl
            omega
        exact (hoo b (by rcases hT with h | h <;> omega) hb5).trans ((hg5.block b (by omega) hne).trans (HB2.out.block b hb))
      · rcases HF5.out with h | h
        · exact .inl h
        · exact .inr (fun k hk => by have := h k hk; omega)
      · exact ((HB2.out.mono (by omega)).trans (hb5.mono (by omega))).trans hbb
    have HFIN := Lib.hid hfin
    clear hfin hr6 hr7 hoo hbb
    refine wpAnyH_done (by kernel_rfl) ?_ _
    go_wp2_with fail
    go_end0
    exact HFIN.out
end Go.Proofs.YthdninnjjmhpfaaGreatDoor

namespace Go.Proofs.YthdninnjjmhpfaaGreatDoor
open Go.RowKit
set_option maxHeartbeats 1000000
set_option maxRecDepth 100000

/-! Valid UTF-8. -/
theorem valid_pre (a t : List UInt8) (ha : ∀ b ∈ a, b.toNat < 128) (h : badL t = t.length) : badL (a ++ t) = (a ++ t).length := by
  induction a with
  | nil => exact h
  | cons b a ih => exact valid_ascii b (a ++ t) (ha b (by simp)) (ih fun c hc => ha c (by simp [hc]))
theorem valid_app : ∀ (f : Nat) (l t : List UInt8), l.length ≤ f → badL l = l.length → badL t = t.length → badL (l ++ t) = (l ++ t).length
  | 0, l, t, hf, _, ht => by
    obtain rfl : l = [] := List.length_eq_zero_iff.1 (by omega)
    exact ht
  | f + 1, l, t, hf, hl, ht => by
    rcases valid_cons l hl with rfl | ⟨h0, h1⟩
    · exact ht
    have hle := dec_le l
    have hd : dec (l ++ t) = dec l := dec_app l t h0
    refine valid_step (l ++ t) (by rw [hd]; exact h0) ?_
    rw [hd, List.drop_append_of_le_length hle]
    exact valid_app f (l.drop (dec l).2) t (by rw [List.length_drop]; omega) h1 ht
theorem hx_lt : ∀ n : Fin 16, (hx n.val).toNat < 128 ∧ (hx n.val).toNat ≠ 93 ∧ hexd1 (hx n.val) = some n.val := by decide +kernel
theorem sgn_ascii : ∀ n : Fin 128, ∀ c ∈ sgn (UInt8.ofNat n.val), c.toNat < 128 := by decide +kernel
theorem sgn_high (c : UInt8) (h : 128 ≤ c.toNat) : sgn c = [c] := by
  unfold sgn
  rw [if_neg (by omega), if_neg (by omega), if_neg (by omega), if_neg (by omega), if_neg (by omega), if_neg (by omega)]
theorem sgn_low (c : UInt8) (h : c.toNat < 128) : ∀ b ∈ sgn c, b.toNat < 128 := by
  have := sgn_ascii ⟨c.toNat, h⟩
  simpa using this
theorem flat_high (l : List UInt8) (h : ∀ c ∈ l, 128 ≤ c.toNat) : l.flatMap sgn = l := by
  induction l with
  | nil => rfl
  | cons c t ih =>
    rw [List.flatMap_cons, sgn_high c (h c (by simp)), ih (fun d hd => h d (by simp [hd]))]
    rfl
theorem valid_quote : ∀ (f : Nat) (l t : List UInt8), l.length ≤ f → badL l = l.length → badL t = t.length → badL (l.flatMap sgn ++ t) = (l.flatMap sgn ++ t).length
  | 0, l, t, hf, _, ht => by
    obtain rfl : l = [] := List.length_eq_zero_iff.1 (by omega)
    exact ht
  | f + 1, l, t, hf, hl, ht => by
    rcases valid_cons l hl with rfl | ⟨h0, h1⟩
    · exact ht
    have hle := dec_le l
    have ih := valid_quote f (l.drop (dec l).2) t (by rw [List.length_drop]; omega) h1 ht
    by_cases h2 : (dec l).2 = 1
    · rcases l with _ | ⟨b, u⟩
      · exact ht
      rw [h2] at ih
      have hb := dec_one b u h2
      rw [List.flatMap_cons, List.append_assoc]
      exact valid_pre (sgn b) _ (sgn_low b hb) ih
    · have hh := high_bytes l h0 h2
      have hs : l = l.take (dec l).2 ++ l.drop (dec l).2 := (List.take_append_drop _ _).symm
      rw [hs, List.flatMap_append, flat_high _ hh, List.append_assoc]
      have hx : dec (l.take (dec l).2 ++ ((l.drop (dec l).2).flatMap sgn ++ t)) = dec l :=
        dec_congr l _ h0 (by rw [List.take_append_of_le_length (by rw [List.length_take]; omega), List.take_take, Nat.min_self])
      refine valid_step _ (by rw [hx]; exact h0) ?_
      rw [hx, List.drop_append, List.length_take, Nat.min_eq_left hle, Nat.sub_self, List.drop_of_length_le (by rw [List.length_take]; omega), List.nil_append, List.drop_zero]
      exact ih
theorem dec_ascii' : ∀ (u : Nat), ∀ b ∈ Lib.decDigits u, 48 ≤ b.toNat ∧ b.toNat ≤ 57 := by
  intro u
  induction u using Nat.strongRecOn with
  | _ u ih =>
    intro b hb
    rw [Lib.decDigits] at hb
    split at hb
    · simp only [List.mem_singleton] at hb
      subst hb
      rename_i h
      simp; omega
    · rw [List.mem_append, List.mem_singleton] at hb
      rcases hb with hb | rfl
      · exact ih _ (by omega) b hb
      · simp; omega
theorem valid_stepT (s : St) (t : List UInt8) (hs : okSt s = true) (ht : badL t = t.length) : badL (stepT s ++ t) = (stepT s ++ t).length := by
  obtain ⟨b, k, i⟩ := s
  unfold okSt at hs
  unfold stepT
  simp only [] at hs ⊢
  cases b with
  | true =>
    simp only [decide_eq_true_eq, if_pos] at hs ⊢
    refine valid_pre _ t ?_ ht
    intro c hc
    simp only [List.mem_cons, List.mem_append, List.not_mem_nil, or_false] at hc
    rcases hc with rfl | hc | rfl
    · decide
    · unfold Lib.itoa at hc
      rw [if_neg (by omega)] at hc
      have := dec_ascii' _ c hc
      omega
    · decide
  | false =>
    rw [if_neg (by simp)] at hs ⊢
    simp only [decide_eq_true_eq] at hs
    split
    · exact valid_ascii 46 _ (by decide) (valid_app _ _ t (Nat.le_refl _) hs.2.2 ht)
    · have h34 : badL (34 :: t) = (34 :: t).length := valid_ascii 34 t (by decide) ht
      have := valid_quote _ (L k) (34 :: t) (Nat.le_refl _) hs.2.2 h34
      simp only [List.cons_append, List.append_assoc, List.nil_append]
      exact valid_ascii 46 _ (by decide) (valid_ascii 34 _ (by decide) this)
theorem valid_flat : ∀ (p : List St), p.all okSt = true → badL (p.flatMap stepT) = (p.flatMap stepT).length
  | [], _ => rfl
  | s :: p, h => by
    simp only [List.all_cons, Bool.and_eq_true] at h
    rw [List.flatMap_cons]
    exact valid_stepT s _ h.1 (valid_flat p h.2)
theorem valid_textL (p : List St) (h : p.all okSt = true) : badL (textL p) = (textL p).length := by
  unfold textL
  rcases p with _ | ⟨s, p⟩
  · rfl
  rw [if_neg (by simp)]
  refine valid_pre _ _ ?_ (valid_flat _ h)
  intro c hc
  unfold preT at hc
  simp only [] at hc
  split at hc
  · simp only [List.mem_singleton] at hc; subst hc; decide
  · simp at hc

/-! A step is read back. -/
def ends (r : List UInt8) : Prop := r = [] ∨ ∃ b t, r = b :: t ∧ (b.toNat = 46 ∨ b.toNat = 91)
theorem nmL_app (k r : List UInt8) (h : nmL k = k.length) (hr : ends r) : nmL (k ++ r) = k.length := by
  induction k with
  | nil =>
    rcases hr with rfl | ⟨b, t, rfl, hb⟩
    · rfl
    · simp only [List.nil_append, List.length_nil]
      unfold nmL
      rw [if_neg]
      unfold nmc alpha dig
      simp only [Bool.or_eq_true, decide_eq_true_eq, not_or]
      exact ⟨⟨by omega, by omega⟩, by omega⟩
  | cons b k ih =>
    unfold nmL at h
    split at h
    · rename_i hb
      rw [List.cons_append]
      unfold nmL
      rw [if_pos hb, ih (by simpa using h)]
      rfl
    · simp at h
theorem folL_app (k r : List UInt8) (h : folL k = k.length) (h0 : k ≠ []) (hr : ends r) : folL (k ++ r) = k.length := by
  rcases k with _ | ⟨b, k⟩
  · exact absurd rfl h0
  simp only [folL] at h
  split at h
  · rename_i hb
    rw [List.cons_append]
    simp only [folL]
    rw [if_pos hb, nmL_app k r (by simpa using h) hr]
    rfl
  · simp at h
theorem idx93_app (d r : List UInt8) (h : ∀ b ∈ d, b.toNat ≠ 93) : idx93 (d ++ 93 :: r) = d.length := by
  induction d with
  | nil =>
    rw [List.nil_append]
    unfold idx93
    rw [if_pos (by decide)]
    rfl
  | cons b d ih =>
    rw [List.cons_append]
    unfold idx93
    rw [if_neg (h b (by simp)), ih fun c hc => h c (by simp [hc])]
    rfl
theorem decFrom_snoc (l : List UInt8) (b : UInt8) (d : Nat) (hd : Lib.digitVal b = some d) : ∀ acc n, Lib.decFrom acc l = some n → Lib.decFrom acc (l ++ [b]) = some (n * 10 + d) := by
  induction l with
  | nil =>
    intro acc n h
    simp only [Lib.decFrom, Option.some.injEq] at h
    subst h
    simp [Lib.decFrom, hd]
  | cons a t ih =>
    intro acc n h
    rw [List.cons_append]
    unfold Lib.decFrom at h ⊢
    cases ha : Lib.digitVal a with
    | none => rw [ha] at h; simp at h
    | some e =>
      rw [ha] at h
      exact ih _ n h
theorem decDigits_val (u : Nat) : Lib.decFrom 0 (Lib.decDigits u) = some u ∧ Lib.decDigits u ≠ [] := by
  induction u using Nat.strongRecOn with
  | _ u ih =>
    have hdg : ∀ d : Nat, d < 10 → Lib.digitVal (UInt8.ofNat (48 + d)) = some d := by
      intro d hd
      unfold Lib.digitVal
      rw [if_pos (by simp; omega)]
      simp; omega
    rw [Lib.decDigits]
    split
    · rename_i h
      refine ⟨?_, by simp⟩
      unfold Lib.decFrom
      rw [hdg u h]
      simp [Lib.decFrom]
    · rename_i h
      refine ⟨?_, by simp⟩
      rw [decFrom_snoc _ _ _ (hdg (u % 10) (by omega)) 0 (u / 10) (ih (u / 10) (by omega)).1]
      congr 1
      omega
theorem atoi_digits (u : Nat) : Lib.atoi (Lib.decDigits u) = some (u : Int) := by
  have h := decDigits_val u
  have ha := dec_ascii' u
  generalize Lib.decDigits u = l at *
  rcases l with _ | ⟨b, t⟩
  · exact absurd rfl h.2
  have hb := ha b (by simp)
  unfold Lib.atoi
  have n45 : (b == 45) = false := by
    rw [beq_eq_false_iff_ne]; rintro rfl; simp at hb
  have n43 : (b == 43) = false := by
    rw [beq_eq_false_iff_ne]; rintro rfl; simp at hb
  simp only [n45, n43, Bool.false_eq_true, if_false]
  unfold Lib.decNat
  simp [h.1]
theorem decDigits_len (u : Nat) (h : u ≤ 65536) : (Lib.decDigits u).length ≤ 5 := by
  rw [Lib.decDigits_length]
  rw [Lib.nDigits]; split
  · omega
  rw [Lib.nDigits]; split
  · omega
  rw [Lib.nDigits]; split
  · omega
  rw [Lib.nDigits]; split
  · omega
  rw [Lib.nDigits]; split
  · omega
  omega
theorem take_len (a r : List UInt8) : (a ++ r).take a.length = a := by simp
theorem drop_len (a r : List UInt8) : (a ++ r).drop a.length = r := by simp
theorem stepI_index (i : Int) (r : List UInt8) (h0 : 0 ≤ i) (h1 : i ≤ 65536) : stepI (91 :: (Lib.itoa i ++ 93 :: r)) = some ((true, ⟨#[]⟩, i), r) := by
  obtain ⟨u, rfl⟩ : ∃ u : Nat, i = (u : Int) := ⟨i.toNat, by omega⟩
  have hi : Lib.itoa (u : Int) = Lib.decDigits u := by unfold Lib.itoa; rw [if_neg (by omega)]; simp
  have hl := decDigits_len u (by omega)
  have hd := dec_ascii' u
  have hv := decDigits_val u
  have ha := atoi_digits u
  rw [hi]
  generalize Lib.decDigits u = d at *
  have hx := idx93_app d r (fun b hb => by have := hd b hb; omega)
  have hn : d.length ≠ 0 := by
    intro h
    exact hv.2 (List.length_eq_zero_iff.1 h)
  rw [stepI_cons, if_pos (by decide), hx, if_neg (by rw [not_or, not_or]; exact ⟨hn, by omega, by rw [List.length_append, List.length_cons]; omega⟩), take_len, ha]
  simp only []
  rw [List.drop_append, Nat.add_sub_cancel_left, List.drop_of_length_le (by omega)]
  rfl
theorem stepI_name (k r : List UInt8) (h : isName k = true) (hr : ends r) : stepI (46 :: (k ++ r)) = some ((false, ⟨k.toArray⟩, 0), r) := by
  unfold isName at h
  simp only [decide_eq_true_eq] at h
  have hf := folL_app k r h.2 h.1 hr
  have hp : 0 < k.length := List.length_pos_iff.2 h.1
  have hh : ¬ ((k ++ r).head? = some 34) := by
    intro he
    rcases k with _ | ⟨b, k⟩
    · exact h.1 rfl
    simp at he
    subst he
    have := h.2
    simp only [folL] at this
    rw [if_neg (by decide)] at this
    simp at this
  rw [stepI_cons, if_neg (by decide), if_neg (by rintro ⟨_, h⟩; exact hh h), if_pos ⟨by decide, by omega⟩, hf, take_len, drop_len]
theorem escI_back : ∀ n : Fin 128, (sgn (UInt8.ofNat n.val) = [UInt8.ofNat n.val] ∧ n.val ≠ 34 ∧ n.val ≠ 92) ∨ (∃ e : Fin 128, sgn (UInt8.ofNat n.val) = [92, UInt8.ofNat e.val] ∧ e.val ≠ 117 ∧ escI [UInt8.ofNat e.val] = (n.val, 1)) ∨ (sgn (UInt8.ofNat n.val) = [92, 117, 123, hx n.val, 125] ∧ n.val < 16) ∨ (sgn (UInt8.ofNat n.val) = [92, 117, 123, hx (n.val / 16), hx (n.val % 16), 125] ∧ 16 ≤ n.val) := by decide +kernel
theorem escI_one (b : UInt8) (u : List UInt8) (h : b.toNat ≠ 117) : escI (b :: u) = escI [b] := by
  rw [escI_cons, escI_cons, if_neg (c := b.toNat = 117) h, if_neg (c := b.toNat = 117) h]
theorem ues_one (n : Nat) (h : n < 16) (u : List UInt8) : ues (123 :: hx n :: 125 :: u) = (n, 4) := by
  have := hx_lt ⟨n, h⟩
  simp [ues, hexs, this.2.2]
theorem ues_two (n : Nat) (h : n < 128) (u : List UInt8) : ues (123 :: hx (n / 16) :: hx (n % 16) :: 125 :: u) = (n, 5) := by
  have h1 := hx_lt ⟨n / 16, by omega⟩
  have h2 := hx_lt ⟨n % 16, by omega⟩
  have h3 : ∀ m : Fin 16, ¬ hx m.val = 125 := by decide +kernel
  have h4 := h3 ⟨n % 16, by omega⟩
  simp only [] at h1 h2 h4
  simp [ues, hexs, h1.2.2, h2.2.2, h4]
  omega
theorem unqF_byte (f : Nat) (b : UInt8) (u : List UInt8) (o : List UInt8 × Nat) (h : unqF f u = some o) : unqF (f + 1) (sgn b ++ u) = some (b :: o.1, o.2 + (sgn b).length) := by
  by_cases hb : b.toNat < 128
  · have hcase := escI_back ⟨b.toNat, hb⟩
    simp only [UInt8.ofNat_toNat] at hcase
    rcases hcase with ⟨h1, h2, h3⟩ | ⟨e, h1, h2, h3⟩ | ⟨h1, h2⟩ | ⟨h1, h2⟩
    · rw [h1]
      simp only [List.cons_append, List.nil_append]
      rw [unqF_cons, if_neg h2, if_neg h3, h]
      rfl
    · rw [h1]
      have he : escI (UInt8.ofNat e.val :: u) = (b.toNat, 1) := by
        rw [escI_one _ _ (by simp; have := e.isLt; omega), h3]
      simp only [List.cons_append, List.nil_append]
      rw [unqF_cons, if_neg (by decide), if_pos (by decide), he]
      simp [h]
    · rw [h1]
      have he : escI (117 :: 123 :: hx b.toNat :: 125 :: u) = (b.toNat, 4) := by
        rw [escI_cons, if_neg (by decide), if_neg (by decide), if_neg (by decide), if_neg (by decide), if_pos (by decide), ues_one _ h2]
      simp only [List.cons_append, List.nil_append]
      rw [unqF_cons, if_neg (by decide), if_pos (by decide), he]
      simp [h]
    · rw [h1]
      have he : escI (117 :: 123 :: hx (b.toNat / 16) :: hx (b.toNat % 16) :: 125 :: u) = (b.toNat, 5) := by
        rw [escI_cons, if_neg (by decide), if_neg (by decide), if_neg (by decide), if_neg (by decide), if_pos (by decide), ues_two _ hb]
      simp only [List.cons_append, List.nil_append]
      rw [unqF_cons, if_neg (by decide), if_pos (by decide), he]
      simp [h]
  · rw [sgn_high b (by omega)]
    simp only [List.cons_append, List.nil_append]
    rw [unqF_cons, if_neg (by omega), if_neg (by omega), h]
    rfl
theorem unqF_back : ∀ (k r : List UInt8) (f : Nat), k.length < f → unqF f (k.flatMap sgn ++ 34 :: r) = some (k, (k.flatMap sgn).length + 1)
  | [], r, f, h => by
    obtain ⟨f, rfl⟩ : ∃ g, f = g + 1 := ⟨f - 1, by simp at h; omega⟩
    simp [unqF]
  | b :: k, r, f, h => by
    obtain ⟨f, rfl⟩ : ∃ g, f = g + 1 := ⟨f - 1, by simp at h; omega⟩
    rw [List.flatMap_cons, List.append_assoc, unqF_byte f b _ _ (unqF_back k r f (by simp at h; omega))]
    simp only [List.length_append]
    congr 2
    omega
theorem flat_len (k : List UInt8) : k.length ≤ (k.flatMap sgn).length := by
  induction k with
  | nil => exact Nat.le_refl _
  | cons b k ih =>
    have : 1 ≤ (sgn b).length := by
      unfold sgn
      repeat' split
      all_goals simp
    rw [List.flatMap_cons, List.length_append, List.length_cons]
    omega
theorem stepI_quoted (k r : List UInt8) : stepI (46 :: 34 :: (k.flatMap sgn ++ 34 :: r)) = some ((false, ⟨k.toArray⟩, 0), r) := by
  have := flat_len k
  rw [stepI_cons, if_neg (by decide), if_pos ⟨by decide, rfl⟩]
  simp only [List.drop_succ_cons, List.drop_zero]
  rw [unqF_back k r _ (by simp only [List.length_cons, List.length_append]; omega)]
  simp only []
  rw [show (k.flatMap sgn).length + 1 = (k.flatMap sgn ++ [34]).length by rw [List.length_append]; rfl, show k.flatMap sgn ++ 34 :: r = (k.flatMap sgn ++ [34]) ++ r by simp, drop_len]
theorem stepI_back (s : St) (r : List UInt8) (hs : okSt s = true) (hr : ends r) : stepI (stepT s ++ r) = some (s, r) := by
  obtain ⟨b, k, i⟩ := s
  unfold okSt at hs
  unfold stepT
  simp only [] at hs ⊢
  cases b with
  | true =>
    simp only [decide_eq_true_eq, if_pos] at hs ⊢
    have hk : k = ⟨#[]⟩ := L_inj (List.length_eq_zero_iff.1 (by rw [L_len]; exact hs.1))
    subst hk
    simp only [List.cons_append, List.append_assoc, List.nil_append]
    exact stepI_index i r hs.2.1 hs.2.2
  | false =>
    rw [if_neg (by simp)] at hs ⊢
    simp only [decide_eq_true_eq] at hs
    obtain ⟨rfl, _⟩ := hs
    split
    · rename_i hn
      exact stepI_name (L k) r hn hr
    · simp only [List.cons_append, List.append_assoc, List.nil_append]
      exact stepI_quoted (L k) r
theorem ends_flat (p : List St) : ends (p.flatMap stepT) := by
  rcases p with _ | ⟨s, p⟩
  · exact .inl rfl
  right
  unfold stepT
  rw [List.flatMap_cons]
  split
  · exact ⟨91, _, rfl, by decide⟩
  · split
    · exact ⟨46, _, rfl, by decide⟩
    · exact ⟨46, _, rfl, by decide⟩
theorem stepT_ne (s : St) : stepT s ≠ [] := by
  unfold stepT
  repeat' split
  all_goals simp
theorem loopI_back : ∀ (p : List St) (f k : Nat), p.all okSt = true → k + p.length ≤ 48 → p.length < f → loopI f k (p.flatMap stepT) = some p
  | [], f, k, _, _, hf => by
    obtain ⟨f, rfl⟩ : ∃ g, f = g + 1 := ⟨f - 1, by simp at hf; omega⟩
    simp [loopI]
  | s :: p, f, k, h, hk, hf => by
    obtain ⟨f, rfl⟩ : ∃ g, f = g + 1 := ⟨f - 1, by simp at hf; omega⟩
    simp only [List.all_cons, Bool.and_eq_true] at h
    simp only [List.length_cons] at hk hf
    rw [List.flatMap_cons]
    unfold loopI
    rw [if_neg (by simp [stepT_ne]; omega), stepI_back s _ h.1 (ends_flat p)]
    simp only []
    rw [loopI_back p f (k + 1) h.2 (by omega) (by omega)]
    rfl
theorem strip_text (p : List St) (h0 : p ≠ []) (h : p.all okSt = true) : strip (textL p) = p.flatMap stepT := by
  rcases p with _ | ⟨⟨b, k, i⟩, p⟩
  · exact absurd rfl h0
  unfold textL
  rw [if_neg (by simp)]
  unfold preT
  simp only []
  cases b with
  | true =>
    rw [if_pos rfl, List.flatMap_cons]
    simp [stepT, strip]
  | false =>
    rw [if_neg (by simp), List.nil_append]
    unfold strip
    rw [if_neg]
    rw [List.flatMap_cons]
    intro he
    unfold stepT at he
    simp only [Bool.false_eq_true, if_false] at he
    split at he
    · rename_i hn
      unfold isName at hn
      simp only [decide_eq_true_eq] at hn
      generalize L k = l at *
      rcases l with _ | ⟨c, l⟩
      · exact hn.1 rfl
      simp only [List.cons_append, List.take_succ_cons, List.take_zero, List.cons.injEq, and_true, true_and] at he
      subst he
      have := hn.2
      simp only [folL] at this
      rw [if_neg (by decide)] at this
      simp at this
    · simp only [List.cons_append, List.take_succ_cons, List.take_zero, List.cons.injEq, and_true, true_and] at he
      exact absurd he (by decide)
theorem all_ok {p : List St} (h : validP p = true) : p.all okSt = true ∧ p.length ≤ 48 := by
  unfold validP at h
  simp only [Bool.and_eq_true, decide_eq_true_eq] at h
  exact ⟨h.2, h.1⟩
/-- What the program makes of a valid path's text. -/
theorem loop_text (p : List St) (h0 : p ≠ []) (h : validP p = true) : loopI 49 0 (strip (textL p)) = some p := by
  obtain ⟨h1, h2⟩ := all_ok h
  rw [strip_text p h0 h1]
  exact loopI_back p 49 0 h1 (by omega) (by omega)
theorem text_dot (p : List St) (h0 : p ≠ []) (h : validP p = true) : textL p ≠ [46] := by
  intro he
  have h1 := loop_text p h0 h
  rw [he] at h1
  have : loopI 49 0 (strip [46]) = none := by decide +kernel
  rw [this] at h1
  cases h1
theorem parse_text (p : List St) (h : validP p = true) : parseL (textL p) = (p, 0) := by
  unfold parseL
  rw [if_neg (by rw [valid_textL p (all_ok h).1]; simp)]
  by_cases h0 : p = []
  · subst h0; rfl
  rw [if_neg (text_dot p h0 h), loop_text p h0 h]
  unfold accept
  simp only []
  rw [if_pos ⟨h0, h, trivial⟩]
/-- Different valid paths have different texts. -/
theorem text_inj {p q : List St} (hp : validP p = true) (hq : validP q = true) (h : textL p = textL q) : p = q := by
  have h1 := parse_text p hp
  rw [h, parse_text q hq] at h1
  exact (congrArg Prod.fst h1).symm
end Go.Proofs.YthdninnjjmhpfaaGreatDoor

namespace Go.Proofs.YthdninnjjmhpfaaGreatDoor
open Go.RowKit
set_option maxHeartbeats 1000000
set_option maxRecDepth 100000

def digR (acc : Nat) : Nat → List UInt8 → Nat × Nat
  | 0, _ => (acc, 0)
  | _ + 1, [] => (acc, 0)
  | f + 1, b :: t => if dig b then ((digR (10 * acc + (b.toNat - 48)) f t).1, (digR (10 * acc + (b.toNat - 48)) f t).2 + 1) else (acc, 0)
def unsP (s : List UInt8) (n : Nat) : Bool := decide (1 < (sgn (UInt8.ofNat n)).length) && (sgn (UInt8.ofNat n)).isPrefixOf s
def unsR (s : List UInt8) : Nat × Nat := match (List.range 128).find? (unsP s) with
  | some n => (n, (sgn (UInt8.ofNat n)).length)
  | none => match s with
    | b :: _ => if b.toNat ≠ 34 ∧ b.toNat ≠ 92 then (b.toNat, 1) else (0, 0)
    | [] => (0, 0)
def quoF : Nat → List UInt8 → Option (List UInt8 × Nat)
  | 0, _ => none
  | _ + 1, [] => none
  | f + 1, b :: t => if b.toNat = 34 then some ([], 1) else if (unsR (b :: t)).2 = 0 then none else (quoF f ((b :: t).drop (unsR (b :: t)).2)).map fun r => (UInt8.ofNat (unsR (b :: t)).1 :: r.1, r.2 + (unsR (b :: t)).2)
def stepR : List UInt8 → Option (St × Nat)
  | [] => none
  | c :: t => if c.toNat = 91 then
      (if (digR 0 8 t).2 = 0 ∨ t[(digR 0 8 t).2]? ≠ some 93 then none else some ((true, ⟨#[]⟩, ((digR 0 8 t).1 : Int)), (digR 0 8 t).2 + 2))
    else if c.toNat ≠ 46 ∨ t = [] then none
    else if t.head? = some 34 then match quoF t.length (t.drop 1) with
      | some r => some ((false, ⟨r.1.toArray⟩, 0), r.2 + 2)
      | none => none
    else some ((false, ⟨(t.take (nmL t)).toArray⟩, 0), nmL t + 1)
def loopR : Nat → Nat → List UInt8 → Option (List St)
  | 0, _, _ => none
  | f + 1, k, l => if l = [] then some [] else match stepR l with
    | some r => if 48 ≤ k then none else (loopR f (k + 1) (l.drop r.2)).map fun p => r.1 :: p
    | none => none
def acceptR (s : List UInt8) (o : Option (List St)) : List St × Nat := match o with
  | some p => if validP p = true ∧ textL p = s then (p, 0) else ([], 3)
  | none => ([], 3)
def parseR (s : List UInt8) : List St × Nat :=
  if badL s ≠ s.length then ([], 5) else if s = [46] then ([], 0) else acceptR s (loopR 49 0 (strip s))

theorem stepR_cons (c : UInt8) (t : List UInt8) : stepR (c :: t) = if c.toNat = 91 then
      (if (digR 0 8 t).2 = 0 ∨ t[(digR 0 8 t).2]? ≠ some 93 then none else some ((true, ⟨#[]⟩, ((digR 0 8 t).1 : Int)), (digR 0 8 t).2 + 2))
    else if c.toNat ≠ 46 ∨ t = [] then none
    else if t.head? = some 34 then match quoF t.length (t.drop 1) with
      | some r => some ((false, ⟨r.1.toArray⟩, 0), r.2 + 2)
      | none => none
    else some ((false, ⟨(t.take (nmL t)).toArray⟩, 0), nmL t + 1) := rfl
theorem quoF_cons (f : Nat) (b : UInt8) (t : List UInt8) : quoF (f + 1) (b :: t) = if b.toNat = 34 then some ([], 1) else if (unsR (b :: t)).2 = 0 then none else (quoF f ((b :: t).drop (unsR (b :: t)).2)).map fun r => (UInt8.ofNat (unsR (b :: t)).1 :: r.1, r.2 + (unsR (b :: t)).2) := rfl

theorem digR_app (d r : List UInt8) : ∀ (acc n f : Nat), Lib.decFrom acc d = some n → d.length ≤ f → digR acc f (d ++ 93 :: r) = (n, d.length) := by
  induction d with
  | nil =>
    intro acc n f h _
    simp only [Lib.decFrom, Option.some.injEq] at h
    subst h
    rcases f with _ | f
    · rfl
    · simp only [List.nil_append, digR]
      rw [if_neg (by decide)]
      rfl
  | cons b d ih =>
    intro acc n f h hf
    obtain ⟨f, rfl⟩ : ∃ g, f = g + 1 := ⟨f - 1, by simp at hf; omega⟩
    unfold Lib.decFrom at h
    cases hb : Lib.digitVal b with
    | none => rw [hb] at h; simp at h
    | some e =>
      rw [hb] at h
      simp only [] at h
      have hdb : dig b = true ∧ e = b.toNat - 48 := by
        unfold Lib.digitVal at hb
        split at hb
        · rename_i hc
          simp only [Option.some.injEq] at hb
          exact ⟨by unfold dig; simpa using hc, hb.symm⟩
        · cases hb
      obtain ⟨h1, rfl⟩ := hdb
      have := ih (10 * acc + (b.toNat - 48)) n f (by rw [Nat.mul_comm]; exact h) (by simp at hf; omega)
      simp only [List.cons_append, digR]
      rw [if_pos h1, this]
      rfl
theorem sgn_free : ∀ j b : Fin 128, 1 < (sgn (UInt8.ofNat j.val)).length → 1 < (sgn (UInt8.ofNat b.val)).length → j ≠ b → (sgn (UInt8.ofNat j.val)).isPrefixOf (sgn (UInt8.ofNat b.val)) = false := by decide +kernel
theorem sgn_kind : ∀ b : Fin 128, (1 < (sgn (UInt8.ofNat b.val)).length ∧ (sgn (UInt8.ofNat b.val)).head? = some 92) ∨ (sgn (UInt8.ofNat b.val) = [UInt8.ofNat b.val] ∧ b.val ≠ 34 ∧ b.val ≠ 92) := by decide +kernel
theorem uns_none (b : UInt8) (u : List UInt8) (h : b.toNat ≠ 92) : (List.range 128).find? (unsP (b :: u)) = none := by
  rw [List.find?_eq_none]
  intro n hn
  have hn' := List.mem_range.1 hn
  unfold unsP
  simp only [Bool.and_eq_true, decide_eq_true_eq, not_and]
  intro h1 h2
  rcases sgn_kind ⟨n, hn'⟩ with ⟨_, h3⟩ | ⟨h3, _⟩
  · simp only [] at h3
    generalize sgn (UInt8.ofNat n) = l at *
    rcases l with _ | ⟨c, l⟩
    · cases h3
    simp only [List.head?_cons, Option.some.injEq] at h3
    subst h3
    simp only [List.isPrefixOf_cons_cons, Bool.and_eq_true, beq_iff_eq] at h2
    rw [← h2.1] at h
    exact h (by decide)
  · simp only [] at h3
    rw [h3] at h1
    simp at h1
theorem unsR_back (b : UInt8) (u : List UInt8) : unsR (sgn b ++ u) = (b.toNat, (sgn b).length) := by
  have plain : sgn b = [b] → b.toNat ≠ 34 → b.toNat ≠ 92 → unsR (sgn b ++ u) = (b.toNat, (sgn b).length) := by
    intro h1 h2 h3
    rw [h1]
    unfold unsR
    rw [List.cons_append, uns_none b _ h3]
    simp only []
    rw [if_pos ⟨h2, h3⟩]
    rfl
  by_cases hb : b.toNat < 128
  · rcases sgn_kind ⟨b.toNat, hb⟩ with ⟨h1, h2⟩ | ⟨h1, h2, h3⟩
    · simp only [UInt8.ofNat_toNat] at h1 h2
      have hf : (List.range 128).find? (unsP (sgn b ++ u)) = some b.toNat := by
        rw [List.find?_range_eq_some]
        refine ⟨?_, List.mem_range.2 hb, ?_⟩
        · unfold unsP
          rw [UInt8.ofNat_toNat]
          simp only [Bool.and_eq_true, decide_eq_true_eq, List.isPrefixOf_iff_prefix]
          exact ⟨h1, List.prefix_append _ _⟩
        · intro j hj
          have hj' : j < 128 := by omega
          unfold unsP
          simp only [Bool.not_eq_true', Bool.and_eq_false_iff, decide_eq_false_iff_not]
          by_cases hl : 1 < (sgn (UInt8.ofNat j)).length
          · right
            have hne : (⟨j, hj'⟩ : Fin 128) ≠ ⟨b.toNat, hb⟩ := by intro h; simp only [Fin.mk.injEq] at h; omega
            have f1 := sgn_free ⟨j, hj'⟩ ⟨b.toNat, hb⟩ hl (by simpa using h1) hne
            have f2 := sgn_free ⟨b.toNat, hb⟩ ⟨j, hj'⟩ (by simpa using h1) hl hne.symm
            simp only [UInt8.ofNat_toNat] at f1 f2
            rw [Bool.eq_false_iff] at f1 f2 ⊢
            simp only [ne_eq, List.isPrefixOf_iff_prefix] at f1 f2 ⊢
            intro hp
            rcases List.prefix_or_prefix_of_prefix hp (List.prefix_append (sgn b) u) with h | h
            · exact f1 h
            · exact f2 h
          · left; exact hl
      unfold unsR
      rw [hf]
      simp only [UInt8.ofNat_toNat]
    · simp only [UInt8.ofNat_toNat] at h1
      exact plain h1 h2 h3
  · exact plain (sgn_high b (by omega)) (by omega) (by omega)
theorem sgn_pos (b : UInt8) : 1 ≤ (sgn b).length := by
  unfold sgn
  repeat' split
  all_goals simp
theorem sgn_head (b : UInt8) : ∃ c t, sgn b = c :: t ∧ c.toNat ≠ 34 := by
  by_cases hb : b.toNat < 128
  · rcases sgn_kind ⟨b.toNat, hb⟩ with ⟨h1, h2⟩ | ⟨h1, h2, h3⟩
    · simp only [UInt8.ofNat_toNat] at h1 h2
      generalize sgn b = l at *
      rcases l with _ | ⟨c, l⟩
      · cases h2
      simp only [List.head?_cons, Option.some.injEq] at h2
      exact ⟨c, l, rfl, by rw [h2]; decide⟩
    · simp only [UInt8.ofNat_toNat] at h1
      exact ⟨b, [], h1, h2⟩
  · exact ⟨b, [], sgn_high b (by omega), by omega⟩
theorem quoF_back : ∀ (k r : List UInt8) (f : Nat), k.length < f → quoF f (k.flatMap sgn ++ 34 :: r) = some (k, (k.flatMap sgn).length + 1)
  | [], r, f, h => by
    obtain ⟨f, rfl⟩ : ∃ g, f = g + 1 := ⟨f - 1, by simp at h; omega⟩
    simp [quoF]
  | b :: k, r, f, h => by
    obtain ⟨f, rfl⟩ : ∃ g, f = g + 1 := ⟨f - 1, by simp at h; omega⟩
    have ih := quoF_back k r f (by simp at h; omega)
    rw [List.flatMap_cons, List.append_assoc]
    have hu := unsR_back b (k.flatMap sgn ++ 34 :: r)
    have hp := sgn_pos b
    obtain ⟨c, t, hc, h34⟩ := sgn_head b
    have hd : (sgn b ++ (k.flatMap sgn ++ 34 :: r)).drop (sgn b).length = k.flatMap sgn ++ 34 :: r := drop_len _ _
    generalize hn : (sgn b).length = n at *
    rw [hc] at hu hd ⊢
    rw [List.cons_append] at hu hd ⊢
    rw [quoF_cons, if_neg h34, hu]
    simp only []
    rw [if_neg (by omega), hd, ih]
    simp only [Option.map_some, UInt8.ofNat_toNat, List.length_append, Option.some.injEq, Prod.mk.injEq, true_and]
    rw [← hc, hn]
    omega
theorem stepR_back (s : St) (r : List UInt8) (hs : okSt s = true) (hr : ends r) : stepR (stepT s ++ r) = some (s, (stepT s).length) := by
  obtain ⟨b, k, i⟩ := s
  unfold okSt at hs
  unfold stepT
  simp only [] at hs ⊢
  cases b with
  | true =>
    simp only [decide_eq_true_eq, if_pos] at hs ⊢
    have hk : k = ⟨#[]⟩ := L_inj (List.length_eq_zero_iff.1 (by rw [L_len]; exact hs.1))
    subst hk
    obtain ⟨u, rfl⟩ : ∃ u : Nat, i = (u : Int) := ⟨i.toNat, by omega⟩
    have hi : Lib.itoa (u : Int) = Lib.decDigits u := by unfold Lib.itoa; rw [if_neg (by omega)]; simp
    have hl := decDigits_len u (by omega)
    have hv := decDigits_val u
    rw [hi]
    generalize Lib.decDigits u = d at *
    have hn : d.length ≠ 0 := by
      intro h
      exact hv.2 (List.length_eq_zero_iff.1 h)
    simp only [List.cons_append, List.append_assoc, List.nil_append]
    rw [stepR_cons, if_pos (by decide), digR_app d r 0 u 8 hv.1 (by omega)]
    simp only []
    rw [if_neg]
    · simp
    · rw [not_or]
      exact ⟨hn, by simp⟩
  | false =>
    rw [if_neg (by simp)] at hs ⊢
    simp only [decide_eq_true_eq] at hs
    obtain ⟨rfl, _⟩ := hs
    split
    · rename_i hn
      unfold isName at hn
      simp only [decide_eq_true_eq] at hn
      obtain ⟨h0, hf⟩ := hn
      have hk : k = ⟨(L k).toArray⟩ := rfl
      rw [hk]
      generalize L k = l at *
      have hnm : nmL l = l.length := by
        rcases l with _ | ⟨c, l⟩
        · rfl
        simp only [folL] at hf
        split at hf
        · rename_i hc
          simp only [nmL]
          rw [hc, Bool.true_or, if_pos rfl]
          exact hf
        · simp at hf
      have ha := nmL_app l r hnm hr
      have hh : ¬ ((l ++ r).head? = some 34) := by
        intro he
        rcases l with _ | ⟨c, l⟩
        · exact h0 rfl
        simp at he
        subst he
        simp only [folL] at hf
        rw [if_neg (by decide)] at hf
        simp at hf
      rw [show L ({ data := l.toArray } : ByteArray) = l from rfl, List.cons_append, stepR_cons, if_neg (by decide), if_neg (by rw [not_or]; exact ⟨by decide, by simp [h0]⟩), if_neg hh, ha, take_len]
      rfl
    · have hfl := flat_len (L k)
      simp only [List.cons_append, List.append_assoc, List.nil_append]
      rw [stepR_cons, if_neg (by decide), if_neg (by rw [not_or]; exact ⟨by decide, by simp⟩), if_pos (by rfl)]
      simp only [List.drop_succ_cons, List.drop_zero]
      rw [quoF_back (L k) r _ (by simp only [List.length_cons, List.length_append]; omega)]
      simp only [mk_L, List.length_cons, List.length_append, List.length_nil]
theorem loopR_back : ∀ (p : List St) (f k : Nat), p.all okSt = true → k + p.length ≤ 48 → p.length < f → loopR f k (p.flatMap stepT) = some p
  | [], f, k, _, _, hf => by
    obtain ⟨f, rfl⟩ : ∃ g, f = g + 1 := ⟨f - 1, by simp at hf; omega⟩
    simp [loopR]
  | s :: p, f, k, h, hk, hf => by
    obtain ⟨f, rfl⟩ : ∃ g, f = g + 1 := ⟨f - 1, by simp at hf; omega⟩
    simp only [List.all_cons, Bool.and_eq_true] at h
    simp only [List.length_cons] at hk hf
    rw [List.flatMap_cons]
    unfold loopR
    rw [if_neg (by simp [stepT_ne]), stepR_back s _ h.1 (ends_flat p)]
    simp only []
    rw [if_neg (by omega), drop_len, loopR_back p f (k + 1) h.2 (by omega) (by omega)]
    rfl
theorem loopR_text (p : List St) (h0 : p ≠ []) (h : validP p = true) : loopR 49 0 (strip (textL p)) = some p := by
  obtain ⟨h1, h2⟩ := all_ok h
  rw [strip_text p h0 h1]
  exact loopR_back p 49 0 h1 (by omega) (by omega)
/-- The reference reads as the program does. -/
theorem parse_same (s : List UInt8) : parseR s = parseL s := by
  unfold parseR parseL
  by_cases hb : badL s ≠ s.length
  · rw [if_pos hb, if_pos hb]
  rw [if_neg hb, if_neg hb]
  by_cases hs : s = [46]
  · rw [if_pos hs, if_pos hs]
  rw [if_neg hs, if_neg hs]
  by_cases he : ∃ p, p ≠ [] ∧ validP p = true ∧ textL p = s
  · obtain ⟨p, h0, hv, rfl⟩ := he
    rw [loop_text p h0 hv, loopR_text p h0 hv]
    simp only [acceptR, accept]
    rw [if_pos ⟨hv, trivial⟩, if_pos ⟨h0, hv, trivial⟩]
  · have h1 : acceptR s (loopR 49 0 (strip s)) = ([], 3) := by
      unfold acceptR
      split
      · rename_i p _
        rw [if_neg]
        rintro ⟨hv, ht⟩
        refine he ⟨p, ?_, hv, ht⟩
        rintro rfl
        exact hs ht.symm
      · rfl
    have h2 : accept s (loopI 49 0 (strip s)) = ([], 3) := by
      unfold accept
      split
      · rename_i p _
        rw [if_neg]
        intro hc
        exact he ⟨p, hc⟩
      · rfl
    rw [h1, h2]
/-- What is read is valid and has the text. -/
theorem parse_sound (s : List UInt8) (h : (parseL s).2 = 0) : validP (parseL s).1 = true ∧ textL (parseL s).1 = s := by
  unfold parseL at h ⊢
  by_cases hb : badL s ≠ s.length
  · rw [if_pos hb] at h; cases h
  rw [if_neg hb] at h ⊢
  by_cases hs : s = [46]
  · rw [if_pos hs, hs]; exact ⟨rfl, rfl⟩
  rw [if_neg hs] at h ⊢
  unfold accept at h ⊢
  split at h
  · split at h
    · rename_i hc
      rw [if_pos hc]
      exact ⟨hc.2.1, hc.2.2⟩
    · cases h
  · cases h
end Go.Proofs.YthdninnjjmhpfaaGreatDoor

namespace Go.Proofs.YthdninnjjmhpfaaGreatDoor
open Go.RowKit Go.Shelf
set_option maxHeartbeats 1000000
set_option maxRecDepth 100000

theorem below_grow' (w : World) (k : Nat) (os : Array Obj) : Below w.heap.size w (Go.Sort.grow (w.drewN k) os) :=
  ⟨rfl, rfl, rfl, by show w.heap.size ≤ (w.heap ++ os).size; rw [Array.size_append]; omega, fun j hj => by show (w.heap ++ os)[j]? = w.heap[j]?; rw [Array.getElem?_append_left hj]⟩
theorem Itoa_any (n : Int) (h0 : 0 ≤ n) (h1 : n ≤ 65536) (w : World) (he : EnvT w) :
    Calls Tryz.prog 76 #[.int .i64 n] w fun e w' => e = .returned (.string ⟨(Lib.itoa n).toArray⟩) ∧ Below w.heap.size w w' := by
  refine (Tryz.strconv_Itoa n (by omega) (by omega) w he.1).mono ?_
  rintro e w' ⟨rfl, k, os, rfl⟩
  exact ⟨rfl, below_grow' w k os⟩
theorem Atoi_ok (s : ByteArray) (n : Int) (hl : s.size ≤ 18) (h : Lib.atoi (L s) = some n) (w : World) :
    Calls Tryz.prog 102 #[.string s] w fun e w' => e = .returned (.tuple #[.int .i64 n, .nilIface]) ∧ Below w.heap.size w w' := by
  refine (Tryz.strconv_Atoi s n hl h w).mono ?_
  rintro e w' ⟨rfl, t, rfl⟩
  exact ⟨rfl, Go.Joins.below_bytesWorld _ _ _ _ (Nat.le_refl _)⟩
theorem Atoi_no (s : ByteArray) (hl : s.size ≤ 18) (h : Lib.atoi (L s) = none) (w : World) (he : Env w) :
    Calls Tryz.prog 102 #[.string s] w fun e w' => (∃ N, e = .returned (.tuple #[.int .i64 0, .iface 176 (.pointer (some ⟨N, 0, none⟩))])) ∧ Below w.heap.size w w' := by
  obtain ⟨-, -, ev, hv, hev⟩ := he
  refine (Tryz.strconv_Atoi_err s hl h ev w hv hev).mono ?_
  rintro e w' ⟨N, rfl, _, _, hb⟩
  exact ⟨⟨N, rfl⟩, hb⟩

theorem itoa_len (n : Int) (h0 : 0 ≤ n) (h1 : n ≤ 65536) : (Lib.itoa n).length ≤ 5 := by
  unfold Lib.itoa
  rw [if_neg (by omega)]
  exact decDigits_len _ (by omega)
theorem sgn_len (b : UInt8) : (sgn b).length ≤ 6 := by
  unfold sgn
  have := hexT_len b.toNat
  repeat' split
  all_goals first | (simp; done) | (simp only [List.length_cons, List.length_append, List.length_nil]; omega)
theorem flat_len6 (l : List UInt8) : (l.flatMap sgn).length ≤ 6 * l.length := by
  induction l with
  | nil => exact Nat.le_refl _
  | cons b l ih =>
    have := sgn_len b
    rw [List.flatMap_cons, List.length_append, List.length_cons]
    omega
theorem okSt_at {l : List St} (h : l.all okSt = true) (k : Nat) (hk : k < l.length) : okSt l[k] = true := List.all_eq_true.1 h _ (List.getElem_mem hk)
theorem text_snoc (l : List St) (k : Nat) (h : k < l.length) : (l.take (k + 1)).flatMap stepT = (l.take k).flatMap stepT ++ stepT l[k] := by
  rw [List.take_succ_eq_append_getElem h, List.flatMap_append]
  simp
theorem PText_any (v : Value) (l : List St) (w : World) (h : Rd w v l) (hv : validP l = true) (he : EnvT w) :
    Calls Tryz.prog 35 #[v] w fun e w' => e = .returned (.string ⟨(textL l).toArray⟩) ∧ Below w.heap.size w w' := by
  obtain ⟨a, cap, rfl, hcap, hmax, _, hl⟩ := h
  obtain ⟨hok, h48⟩ := all_ok hv
  clear hv
  by_cases h0 : l = []
  · subst h0
    clear hl
    go_enter Tryz.func35, Tryz.ntmps35
    go_wp2_with fail
    go_ret
    exact ⟨rfl, Below.refl _ _⟩
  have hlen : 0 < l.length := List.length_pos_iff.2 h0
  obtain ⟨g, o, rfl, hg, hat⟩ := hl h0
  obtain ⟨c0, c1, c2⟩ := hat 0 hlen
  simp only [Nat.zero_mul, Nat.add_zero] at c0
  clear c1 c2 hl
  have HT : Hid (textL l = preT l ++ l.flatMap stepT) := by unfold Hid textL; rw [if_neg (by simp [h0])]
  have HP : Hid (preT l = if l[0].1 then [46] else []) := by
    unfold Hid
    cases l with
    | nil => exact absurd rfl h0
    | cons s p => rfl
  have HA := Lib.hid hat; clear hat
  have HOK := Lib.hid hok; clear hok
  have HE := Lib.hid he; clear he
  have hne0 : ((l.length : Int) == 0) = false := by rw [beq_eq_false_iff_ne]; omega
  clear h0
  cases hb : l[0].1
  case false =>
    rw [hb] at c0 HP
    clear hb
    have HPR : Hid (preT l = []) := HP.out
    clear HP
    go_enter Tryz.func35, Tryz.ntmps35
    go_wp2_with fail
    have hb1 : Below w.heap.size w w := Below.refl _ _
    have hst : ∃ acc : List UInt8, acc.length ≤ 1 ∧ acc = [] ∧ w.ownsRow w.heap.size 5 1 (.slice none 0 0) acc.length (acc.map bv) := ⟨[], by decide, rfl, World.ownsRow_nil _ _ _ _⟩
    have HST := Lib.hid hst; clear hst
    have HB1 := Lib.hid hb1
    go_loopw [3, 5, 18] (fun o _ n wr => ∃ (k : Nat) (acc : List UInt8), k ≤ l.length ∧ n = .int .i64 k ∧ acc.length ≤ 7000 * k + 1 ∧ wr.ownsRow w.heap.size 5 1 o acc.length (acc.map bv) ∧ Hid (acc = preT l ++ (l.take k).flatMap stepT) ∧ Below w.heap.size w wr) (fun _ _ n _ => l.length - (intOf n).toNat)
    case atStart =>
      obtain ⟨acc, ha, hacc, hown⟩ := HST.out
      exact ⟨0, acc, Nat.zero_le _, rfl, by omega, hown, by unfold Hid; rw [hacc, HPR.out]; rfl, HB1.out⟩
    case round =>
      clear HST HB1 hb1 c0 
      obtain ⟨k, acc, hk, rfl, hal, hown, HA2, hbw⟩ := hrel
      have hz := hbw.size
      by_cases hlt : k < l.length
      case neg =>
        obtain rfl : k = l.length := by omega
        have HX : Hid (textL l = acc) := by
          unfold Hid
          rw [HT.out, HA2.out, List.take_of_length_le (Nat.le_refl _)]
        clear HA2 HT HPR
        have hcv := conv_own bytesT hown
        go_wp2_with fail
        go_ret
        exact ⟨by rw [HX.out]; rfl, hbw⟩
      have hstep : ∀ cs, cs = stepT l[k] → Hid (acc ++ cs = preT l ++ (l.take (k + 1)).flatMap stepT) := by
        intro cs hcs
        unfold Hid
        rw [HA2.out, hcs, text_snoc l k hlt, List.append_assoc]
      have HS := Lib.hid hstep; clear hstep HA2
      obtain ⟨d0, d1, d2⟩ := HA.out k hlt
      have hs := okSt_at HOK.out k hlt
      rw [← hbw.cell (p := ⟨g, o + k * 3, none⟩) hg] at d0
      rw [← hbw.cell (p := ⟨g, o + k * 3 + 1, none⟩) hg] at d1
      rw [← hbw.cell (p := ⟨g, o + k * 3 + 2, none⟩) hg] at d2
      generalize l[k] = s at *
      obtain ⟨b, key, ix⟩ := s
      simp only [] at d0 d1 d2
      have hownC := hown.alloc (.cells #[.bool b, .string key, .int .i64 ix] 94)
      have hbwC : Below w.heap.size w (wr.alloc (.cells #[.bool b, .string key, .int .i64 ix] 94)) := hbw.alloc hz _
      have hzC := hbwC.size
      have HEC := Lib.hid (HE.out.below hbwC)
      have hg1 : g < wr.heap.size := by omega
      have HOC := Lib.hid hownC
      clear hown hownC
      cases b with
      | true =>
        rw [okSt_true, decide_eq_true_eq] at hs
        obtain ⟨_, hi0, hi1⟩ := hs
        have hle := itoa_len ix hi0 hi1
        have hi1' : Hid (ix ≤ 65536) := hi1
        clear hi1
        obtain ⟨H, hH⟩ : ∃ H : ByteArray, H = ⟨(Lib.itoa ix).toArray⟩ := ⟨_, rfl⟩
        have hLH : L H = Lib.itoa ix := by rw [hH]; rfl
        have hHs : H.size ≤ 5 := by rw [← L_len, hLH]; exact hle
        have hLT : L (⟨#[91]⟩ ++ H ++ ⟨#[93]⟩) = 91 :: (Lib.itoa ix ++ [93]) := by rw [L_append, L_append, hLH]; rfl
        have hTs : (⟨#[91]⟩ ++ H ++ ⟨#[93]⟩ : ByteArray).size ≤ 7 := by rw [← L_len, hLT]; simp only [List.length_cons, List.length_append, List.length_nil]; omega
        have HQ := HS.out (L (⟨#[91]⟩ ++ H ++ ⟨#[93]⟩)) (by rw [hLT]; rfl)
        have HC := Lib.hid (fun w' (h : EnvT w') => Itoa_any ix hi0 hi1'.out w' h)
        rw [← hH] at HC
        have HT7 := Lib.hid hTs
        have HLT7 : Hid ((L (⟨#[91]⟩ ++ H ++ ⟨#[93]⟩)).length ≤ 7) := by unfold Hid; rw [L_len]; exact hTs
        clear HS hH hLH hLT hTs hle
        go_wp2_with fail
        refine (HC.out _ HEC.out).mono ?_
        rintro e w2 ⟨rfl, hb2⟩
        have hown2 := own_below HOC.out hb2
        have hbw2 := hbwC.trans (hb2.mono hzC)
        have hz2 := hbw2.size
        have HS7 : Hid (acc.length + (⟨#[91]⟩ ++ H ++ ⟨#[93]⟩ : ByteArray).size < 100000000000000) := by have := HT7.out; unfold Hid; omega
        clear HOC HC hbwC hzC hb2
        go_wp2_with (at_builtin; refine wp_pushS bytesT rfl _ _ rfl hown2 (⟨#[91]⟩ ++ H ++ ⟨#[93]⟩) rfl rfl HS7.out hz2 ?_; intro v' w3 hown3 hg3 hb3)
        refine ⟨⟨k + 1, acc ++ L (⟨#[91]⟩ ++ H ++ ⟨#[93]⟩), by omega, rfl, ?_, ?_, HQ, hbw2.trans hb3⟩, by simp [intOf]; omega⟩
        · rw [List.length_append]; have := HLT7.out; omega
        · rw [List.length_append, L_len]; exact hown3
      | false =>
        rw [okSt_false, decide_eq_true_eq] at hs
        obtain ⟨rfl, hks, _⟩ := hs
        have hF : ∀ w', Calls Tryz.prog 77 #[.string key] w' fun e w'' => e = .returned (.int .i64 (folL (L key))) ∧ w'' = w' := fun w' => (follows_any key w' (by omega)).mono fun e w'' ⟨he, hw⟩ => ⟨he, hw.symm⟩
        have HF2 := Lib.hid hF; clear hF
        by_cases hnm : isName (L key) = true
        · have hnm' := hnm
          unfold isName at hnm'
          simp only [decide_eq_true_eq] at hnm'
          obtain ⟨hn0, hn1⟩ := hnm'
          have e1 : key.toList.isEmpty = false := by
            rw [Bool.eq_false_iff, ne_eq, neE, ← L_len]
            intro h
            exact hn0 (List.length_eq_zero_iff.1 h)
          have e2 : ((folL (L key) : Int) == key.size) = true := by rw [beq_iff_eq, hn1, L_len]
          have hLT : L (⟨#[46]⟩ ++ key) = 46 :: L key := by rw [L_append]; rfl
          have hTs : (⟨#[46]⟩ ++ key : ByteArray).size ≤ 1025 := by rw [ByteArray.size_append]; show 1 + _ ≤ _; omega
          have HQ := HS.out (L (⟨#[46]⟩ ++ key)) (by rw [hLT]; unfold stepT; simp [hnm])
          have HT7 := Lib.hid hTs
          clear HS hLT hnm hn0 hn1
          have HOD : Hid (∀ nq, ((wr.alloc (.cells #[.bool false, .string key, .int .i64 0] 94)).drewN nq).ownsRow w.heap.size 5 1 u3 acc.length (acc.map bv)) := fun nq => HOC.out
          have HBD : Hid (∀ nq, Below w.heap.size w ((wr.alloc (.cells #[.bool false, .string key, .int .i64 0] 94)).drewN nq)) := fun nq => ⟨hbwC.os, hbwC.tape, hbwC.output, hbwC.size, hbwC.block⟩
          have HS7 : Hid (acc.length + (⟨#[46]⟩ ++ key : ByteArray).size < 100000000000000) := by unfold Hid; omega
          clear HOC hbwC hzC hTs
          go_wp2_with fail
          go_quiet (first | (go_at_call 77; exact Calls.quiet_of_same (HF2.out _)))
          have hownD := HOD.out nq
          have hbwD := HBD.out nq
          have hzD := hbwD.size
          go_wp2_with (at_builtin; refine wp_pushS bytesT rfl _ _ rfl hownD (⟨#[46]⟩ ++ key) rfl rfl HS7.out hzD ?_; intro v' w3 hown3 hg3 hb3)
          refine ⟨⟨k + 1, acc ++ L (⟨#[46]⟩ ++ key), by omega, rfl, ?_, ?_, HQ, hbwD.trans hb3⟩, by simp [intOf]; omega⟩
          · rw [List.length_append, L_len]; have := HT7.out; omega
          · rw [List.length_append, L_len]; exact hown3
        · obtain ⟨Q, hQ⟩ : ∃ Q : ByteArray, Q = ⟨(quoteT (L key)).toArray⟩ := ⟨_, rfl⟩
          have hLQ : L Q = quoteT (L key) := by rw [hQ]; rfl
          have hf6 := flat_len6 (L key)
          rw [L_len] at hf6
          have hQs : Q.size ≤ 6146 := by rw [← L_len, hLQ]; unfold quoteT; simp only [List.length_cons, List.length_append, List.length_nil]; omega
          have hLT : L (⟨#[46]⟩ ++ Q) = 46 :: quoteT (L key) := by rw [L_append, hLQ]; rfl
          have hTs : (⟨#[46]⟩ ++ Q : ByteArray).size ≤ 6147 := by rw [ByteArray.size_append]; show 1 + _ ≤ _; omega
          have HQ := HS.out (L (⟨#[46]⟩ ++ Q)) (by rw [hLT]; unfold stepT quoteT; simp [hnm])
          have HC := Lib.hid (fun w' (h : EnvT w') => quote_any key w' (by omega) h)
          rw [← hQ] at HC
          have HT7 := Lib.hid hTs
          have HOD : Hid (∀ nq, ((wr.alloc (.cells #[.bool false, .string key, .int .i64 0] 94)).drewN nq).ownsRow w.heap.size 5 1 u3 acc.length (acc.map bv)) := fun nq => HOC.out
          have HBD : Hid (∀ nq, Below w.heap.size w ((wr.alloc (.cells #[.bool false, .string key, .int .i64 0] 94)).drewN nq)) := fun nq => ⟨hbwC.os, hbwC.tape, hbwC.output, hbwC.size, hbwC.block⟩
          have HS7 : Hid (acc.length + (⟨#[46]⟩ ++ Q : ByteArray).size < 100000000000000) := by unfold Hid; omega
          have key2 : (key.toList.isEmpty = true) ∨ (key.toList.isEmpty = false ∧ ((folL (L key) : Int) == key.size) = false) := by
            cases h1 : key.toList.isEmpty with
            | true => exact .inl rfl
            | false =>
              right
              refine ⟨rfl, ?_⟩
              rw [beq_eq_false_iff_ne]
              intro h2
              apply hnm
              unfold isName
              simp only [decide_eq_true_eq]
              refine ⟨fun h3 => ?_, by rw [L_len]; omega⟩
              have h4 : key.size = 0 := by rw [← L_len, h3]; rfl
              rw [neE.2 h4] at h1
              cases h1
          clear HS hQ hLQ hLT hTs hnm HOC hbwC hzC hf6
          rcases key2 with e1 | ⟨e1, e2⟩
          all_goals
            go_wp2_with fail
            go_quiet (first | (go_at_call 77; exact Calls.quiet_of_same (HF2.out _)))
            have hownD := HOD.out nq
            have hbwD := HBD.out nq
            have hzD := hbwD.size
            have HED := Lib.hid (HE.out.below hbwD)
            go_wp2_with fail
            refine (HC.out _ HED.out).mono ?_
            rintro e w2 ⟨rfl, hb2⟩
            have hown2 := own_below hownD hb2
            have hbw2 := hbwD.trans (hb2.mono hzD)
            have hz2 := hbw2.size
            clear hownD hbwD hzD hb2
            go_wp2_with (at_builtin; refine wp_pushS bytesT rfl _ _ rfl hown2 (⟨#[46]⟩ ++ Q) rfl rfl HS7.out hz2 ?_; intro v' w3 hown3 hg3 hb3)
            refine ⟨⟨k + 1, acc ++ L (⟨#[46]⟩ ++ Q), by omega, rfl, ?_, ?_, HQ, hbw2.trans hb3⟩, by simp [intOf]; omega⟩
            · rw [List.length_append, L_len]; have := HT7.out; omega
            · rw [List.length_append, L_len]; exact hown3
  case true =>
    rw [hb] at c0 HP
    clear hb
    have HPR : Hid (preT l = [46]) := HP.out
    clear HP
    go_enter Tryz.func35, Tryz.ntmps35
    have hownN : w.ownsRow w.heap.size 5 1 (.slice none 0 0) 0 (([] : List UInt8).map bv) := World.ownsRow_nil _ _ _ _
    go_wp2_with (at_builtin; refine wp_pushM bytesT rfl _ _ rfl hownN [46] [.int .u8 46] rfl 1 rfl rfl _ rfl rfl (by omega) (Nat.le_refl _) ?_; intro v1 w1 hown1 hg1 hb1)
    have hst : ∃ acc : List UInt8, acc.length ≤ 1 ∧ acc = [46] ∧ w1.ownsRow w.heap.size 5 1 v1 acc.length (acc.map bv) := ⟨[46], by decide, rfl, hown1⟩
    have HST := Lib.hid hst; clear hst
    have HB1 := Lib.hid hb1
    go_loopw [3, 5, 18] (fun o _ n wr => ∃ (k : Nat) (acc : List UInt8), k ≤ l.length ∧ n = .int .i64 k ∧ acc.length ≤ 7000 * k + 1 ∧ wr.ownsRow w.heap.size 5 1 o acc.length (acc.map bv) ∧ Hid (acc = preT l ++ (l.take k).flatMap stepT) ∧ Below w.heap.size w wr) (fun _ _ n _ => l.length - (intOf n).toNat)
    case atStart =>
      obtain ⟨acc, ha, hacc, hown⟩ := HST.out
      exact ⟨0, acc, Nat.zero_le _, rfl, by omega, hown, by unfold Hid; rw [hacc, HPR.out]; rfl, HB1.out⟩
    case round =>
      clear HST HB1 hb1 c0 hown1
      obtain ⟨k, acc, hk, rfl, hal, hown, HA2, hbw⟩ := hrel
      have hz := hbw.size
      by_cases hlt : k < l.length
      case neg =>
        obtain rfl : k = l.length := by omega
        have HX : Hid (textL l = acc) := by
          unfold Hid
          rw [HT.out, HA2.out, List.take_of_length_le (Nat.le_refl _)]
        clear HA2 HT HPR
        have hcv := conv_own bytesT hown
        go_wp2_with fail
        go_ret
        exact ⟨by rw [HX.out]; rfl, hbw⟩
      have hstep : ∀ cs, cs = stepT l[k] → Hid (acc ++ cs = preT l ++ (l.take (k + 1)).flatMap stepT) := by
        intro cs hcs
        unfold Hid
        rw [HA2.out, hcs, text_snoc l k hlt, List.append_assoc]
      have HS := Lib.hid hstep; clear hstep HA2
      obtain ⟨d0, d1, d2⟩ := HA.out k hlt
      have hs := okSt_at HOK.out k hlt
      rw [← hbw.cell (p := ⟨g, o + k * 3, none⟩) hg] at d0
      rw [← hbw.cell (p := ⟨g, o + k * 3 + 1, none⟩) hg] at d1
      rw [← hbw.cell (p := ⟨g, o + k * 3 + 2, none⟩) hg] at d2
      generalize l[k] = s at *
      obtain ⟨b, key, ix⟩ := s
      simp only [] at d0 d1 d2
      have hownC := hown.alloc (.cells #[.bool b, .string key, .int .i64 ix] 94)
      have hbwC : Below w.heap.size w (wr.alloc (.cells #[.bool b, .string key, .int .i64 ix] 94)) := hbw.alloc hz _
      have hzC := hbwC.size
      have HEC := Lib.hid (HE.out.below hbwC)
      have hg1 : g < wr.heap.size := by omega
      have HOC := Lib.hid hownC
      clear hown hownC
      cases b with
      | true =>
        rw [okSt_true, decide_eq_true_eq] at hs
        obtain ⟨_, hi0, hi1⟩ := hs
        have hle := itoa_len ix hi0 hi1
        have hi1' : Hid (ix ≤ 65536) := hi1
        clear hi1
        obtain ⟨H, hH⟩ : ∃ H : ByteArray, H = ⟨(Lib.itoa ix).toArray⟩ := ⟨_, rfl⟩
        have hLH : L H = Lib.itoa ix := by rw [hH]; rfl
        have hHs : H.size ≤ 5 := by rw [← L_len, hLH]; exact hle
        have hLT : L (⟨#[91]⟩ ++ H ++ ⟨#[93]⟩) = 91 :: (Lib.itoa ix ++ [93]) := by rw [L_append, L_append, hLH]; rfl
        have hTs : (⟨#[91]⟩ ++ H ++ ⟨#[93]⟩ : ByteArray).size ≤ 7 := by rw [← L_len, hLT]; simp only [List.length_cons, List.length_append, List.length_nil]; omega
        have HQ := HS.out (L (⟨#[91]⟩ ++ H ++ ⟨#[93]⟩)) (by rw [hLT]; rfl)
        have HC := Lib.hid (fun w' (h : EnvT w') => Itoa_any ix hi0 hi1'.out w' h)
        rw [← hH] at HC
        have HT7 := Lib.hid hTs
        have HLT7 : Hid ((L (⟨#[91]⟩ ++ H ++ ⟨#[93]⟩)).length ≤ 7) := by unfold Hid; rw [L_len]; exact hTs
        clear HS hH hLH hLT hTs hle
        go_wp2_with fail
        refine (HC.out _ HEC.out).mono ?_
        rintro e w2 ⟨rfl, hb2⟩
        have hown2 := own_below HOC.out hb2
        have hbw2 := hbwC.trans (hb2.mono hzC)
        have hz2 := hbw2.size
        have HS7 : Hid (acc.length + (⟨#[91]⟩ ++ H ++ ⟨#[93]⟩ : ByteArray).size < 100000000000000) := by have := HT7.out; unfold Hid; omega
        clear HOC HC hbwC hzC hb2
        go_wp2_with (at_builtin; refine wp_pushS bytesT rfl _ _ rfl hown2 (⟨#[91]⟩ ++ H ++ ⟨#[93]⟩) rfl rfl HS7.out hz2 ?_; intro v' w3 hown3 hg3 hb3)
        refine ⟨⟨k + 1, acc ++ L (⟨#[91]⟩ ++ H ++ ⟨#[93]⟩), by omega, rfl, ?_, ?_, HQ, hbw2.trans hb3⟩, by simp [intOf]; omega⟩
        · rw [List.length_append]; have := HLT7.out; omega
        · rw [List.length_append, L_len]; exact hown3
      | false =>
        rw [okSt_false, decide_eq_true_eq] at hs
        obtain ⟨rfl, hks, _⟩ := hs
        have hF : ∀ w', Calls Tryz.prog 77 #[.string key] w' fun e w'' => e = .returned (.int .i64 (folL (L key))) ∧ w'' = w' := fun w' => (follows_any key w' (by omega)).mono fun e w'' ⟨he, hw⟩ => ⟨he, hw.symm⟩
        have HF2 := Lib.hid hF; clear hF
        by_cases hnm : isName (L key) = true
        · have hnm' := hnm
          unfold isName at hnm'
          simp only [decide_eq_true_eq] at hnm'
          obtain ⟨hn0, hn1⟩ := hnm'
          have e1 : key.toList.isEmpty = false := by
            rw [Bool.eq_false_iff, ne_eq, neE, ← L_len]
            intro h
            exact hn0 (List.length_eq_zero_iff.1 h)
          have e2 : ((folL (L key) : Int) == key.size) = true := by rw [beq_iff_eq, hn1, L_len]
          have hLT : L (⟨#[46]⟩ ++ key) = 46 :: L key := by rw [L_append]; rfl
          have hTs : (⟨#[46]⟩ ++ key : ByteArray).size ≤ 1025 := by rw [ByteArray.size_append]; show 1 + _ ≤ _; omega
          have HQ := HS.out (L (⟨#[46]⟩ ++ key)) (by rw [hLT]; unfold stepT; simp [hnm])
          have HT7 := Lib.hid hTs
          clear HS hLT hnm hn0 hn1
          have HOD : Hid (∀ nq, ((wr.alloc (.cells #[.bool false, .string key, .int .i64 0] 94)).drewN nq).ownsRow w.heap.size 5 1 u3 acc.length (acc.map bv)) := fun nq => HOC.out
          have HBD : Hid (∀ nq, Below w.heap.size w ((wr.alloc (.cells #[.bool false, .string key, .int .i64 0] 94)).drewN nq)) := fun nq => ⟨hbwC.os, hbwC.tape, hbwC.output, hbwC.size, hbwC.block⟩
          have HS7 : Hid (acc.length + (⟨#[46]⟩ ++ key : ByteArray).size < 100000000000000) := by unfold Hid; omega
          clear HOC hbwC hzC hTs
          go_wp2_with fail
          go_quiet (first | (go_at_call 77; exact Calls.quiet_of_same (HF2.out _)))
          have hownD := HOD.out nq
          have hbwD := HBD.out nq
          have hzD := hbwD.size
          go_wp2_with (at_builtin; refine wp_pushS bytesT rfl _ _ rfl hownD (⟨#[46]⟩ ++ key) rfl rfl HS7.out hzD ?_; intro v' w3 hown3 hg3 hb3)
          refine ⟨⟨k + 1, acc ++ L (⟨#[46]⟩ ++ key), by omega, rfl, ?_, ?_, HQ, hbwD.trans hb3⟩, by simp [intOf]; omega⟩
          · rw [List.length_append, L_len]; have := HT7.out; omega
          · rw [List.length_append, L_len]; exact hown3
        · obtain ⟨Q, hQ⟩ : ∃ Q : ByteArray, Q = ⟨(quoteT (L key)).toArray⟩ := ⟨_, rfl⟩
          have hLQ : L Q = quoteT (L key) := by rw [hQ]; rfl
          have hf6 := flat_len6 (L key)
          rw [L_len] at hf6
          have hQs : Q.size ≤ 6146 := by rw [← L_len, hLQ]; unfold quoteT; simp only [List.length_cons, List.length_append, List.length_nil]; omega
          have hLT : L (⟨#[46]⟩ ++ Q) = 46 :: quoteT (L key) := by rw [L_append, hLQ]; rfl
          have hTs : (⟨#[46]⟩ ++ Q : ByteArray).size ≤ 6147 := by rw [ByteArray.size_append]; show 1 + _ ≤ _; omega
          have HQ := HS.out (L (⟨#[46]⟩ ++ Q)) (by rw [hLT]; unfold stepT quoteT; simp [hnm])
          have HC := Lib.hid (fun w' (h : EnvT w') => quote_any key w' (by omega) h)
          rw [← hQ] at HC
          have HT7 := Lib.hid hTs
          have HOD : Hid (∀ nq, ((wr.alloc (.cells #[.bool false, .string key, .int .i64 0] 94)).drewN nq).ownsRow w.heap.size 5 1 u3 acc.length (acc.map bv)) := fun nq => HOC.out
          have HBD : Hid (∀ nq, Below w.heap.size w ((wr.alloc (.cells #[.bool false, .string key, .int .i64 0] 94)).drewN nq)) := fun nq => ⟨hbwC.os, hbwC.tape, hbwC.output, hbwC.size, hbwC.block⟩
          have HS7 : Hid (acc.length + (⟨#[46]⟩ ++ Q : ByteArray).size < 100000000000000) := by unfold Hid; omega
          have key2 : (key.toList.isEmpty = true) ∨ (key.toList.isEmpty = false ∧ ((folL (L key) : Int) == key.size) = false) := by
            cases h1 : key.toList.isEmpty with
            | true => exact .inl rfl
            | false =>
              right
              refine ⟨rfl, ?_⟩
              rw [beq_eq_false_iff_ne]
              intro h2
              apply hnm
              unfold isName
              simp only [decide_eq_true_eq]
              refine ⟨fun h3 => ?_, by rw [L_len]; omega⟩
              have h4 : key.size = 0 := by rw [← L_len, h3]; rfl
              rw [neE.2 h4] at h1
              cases h1
          clear HS hQ hLQ hLT hTs hnm HOC hbwC hzC hf6
          rcases key2 with e1 | ⟨e1, e2⟩
          all_goals
            go_wp2_with fail
            go_quiet (first | (go_at_call 77; exact Calls.quiet_of_same (HF2.out _)))
            have hownD := HOD.out nq
            have hbwD := HBD.out nq
            have hzD := hbwD.size
            have HED := Lib.hid (HE.out.below hbwD)
            go_wp2_with fail
            refine (HC.out _ HED.out).mono ?_
            rintro e w2 ⟨rfl, hb2⟩
            have hown2 := own_below hownD hb2
            have hbw2 := hbwD.trans (hb2.mono hzD)
            have hz2 := hbw2.size
            clear hownD hbwD hzD hb2
            go_wp2_with (at_builtin; refine wp_pushS bytesT rfl _ _ rfl hown2 (⟨#[46]⟩ ++ Q) rfl rfl HS7.out hz2 ?_; intro v' w3 hown3 hg3 hb3)
            refine ⟨⟨k + 1, acc ++ L (⟨#[46]⟩ ++ Q), by omega, rfl, ?_, ?_, HQ, hbw2.trans hb3⟩, by simp [intOf]; omega⟩
            · rw [List.length_append, L_len]; have := HT7.out; omega
            · rw [List.length_append, L_len]; exact hown3
end Go.Proofs.YthdninnjjmhpfaaGreatDoor

namespace Go.Proofs.YthdninnjjmhpfaaGreatDoor
open Go.RowKit
set_option maxHeartbeats 8000000
set_option maxRecDepth 100000

/-! What a change that is valid says. -/
theorem one_ok {x : Ch} (h : oneC x = 0) : validP x.p = true ∧ 0 ≤ x.pos ∧ x.pos ≤ 65536 ∧ (x.op = 1 ∨ x.op = 2 ∨ x.op = 3 ∨ x.op = 4) := by
  unfold oneC at h
  by_cases h1 : arg1 x = false
  · rw [if_pos h1] at h; exact absurd h (by decide)
  by_cases h2 : arg2 x = false
  · rw [if_neg h1, if_pos h2] at h; exact absurd h (by decide)
  rw [Bool.not_eq_false] at h1 h2
  unfold arg1 at h1
  unfold arg2 at h2
  simp only [Bool.not_eq_true', Bool.or_eq_false_iff, Bool.and_eq_false_iff, Bool.not_eq_false', decide_eq_false_iff_not] at h1 h2
  obtain ⟨ho, hp, _⟩ := h1
  refine ⟨hp, by omega, by omega, ?_⟩
  unfold oldB newB at ho
  rw [decide_eq_true_iff, decide_eq_true_iff] at ho
  omega
theorem first_all {xs : List Ch} (h : (firstL xs).2 = 0) : ∀ i (hi : i < xs.length), oneC xs[i] = 0 := by
  unfold firstL at h
  split at h
  · cases h
  · have key : ∀ (l : List Ch) (k : Nat), (firstC l k).2 = 0 → ∀ x ∈ l, oneC x = 0 := by
      intro l
      induction l with
      | nil => intro _ _ x hx; cases hx
      | cons y t ih =>
        intro k hk x hx
        rw [firstC] at hk
        split at hk
        · exact absurd hk (by assumption)
        · rename_i hy
          rcases List.mem_cons.1 hx with rfl | hx
          · simpa using hy
          · exact ih _ hk x hx
    exact fun i hi => key xs 0 h _ (List.getElem_mem hi)
theorem nod_wr (x : Ch) : nodF (wr5 x) ≤ nodV x.o + nodV x.n + 3 := by
  have a : ∀ l m : List (ByteArray × V), nodF (l ++ m) = nodF l + nodF m := by
    intro l m
    induction l with
    | nil => rw [List.nil_append, nodF]; omega
    | cons y t ih => rw [List.cons_append, nodF, nodF, ih]; omega
  have b : nodF ([] : List (ByteArray × V)) = 0 := by rw [nodF]
  have c : ∀ k v, nodF [(k, v)] = nodV v := fun k v => by rw [nodF, nodF]; simp
  have d : ∀ s, nodV (vT s) = 1 := fun s => by rw [vT, nodV_mk, nodL, nodF]
  have d2 : ∀ s, nodV (vI s) = 1 := fun s => by rw [vI, nodV_mk, nodL, nodF]
  have e : nodF (wr2 x) = 2 := by
    unfold wr2
    rw [nodF, c, d, d]
  unfold wr5 wr4 wr3
  simp only [a, e]
  have f1 : nodF (if keyB x = true then [(kAt, vI x.pos)] else []) ≤ 1 := by split <;> simp [b, c, d2]
  have f2 : nodF (if oldB x.op = true then [(kOld, x.o)] else []) ≤ nodV x.o := by split <;> simp [b, c]
  have f3 : nodF (if newB x.op = true then [(kNew, x.n)] else []) ≤ nodV x.n := by split <;> simp [b, c]
  omega
theorem nod_wrL (xs : List Ch) (h : fewB xs = true) : nodV (wrL xs) ≤ 1000000 := by
  obtain ⟨hn, hf⟩ := fewB_is h
  have key : ∀ l : List Ch, (∀ x ∈ l, nodV x.o ≤ 150 ∧ nodV x.n ≤ 150) → nodL (l.map wrV) ≤ 304 * l.length := by
    intro l
    induction l with
    | nil => intro _; rw [List.map_nil, nodL]; exact Nat.zero_le _
    | cons y t ih =>
      intro hl
      have h1 := ih (fun x hx => hl x (List.mem_cons_of_mem _ hx))
      have h2 := hl y List.mem_cons_self
      have h3 := nod_wr y
      rw [List.map_cons, nodL, List.length_cons]
      have h4 : nodV (wrV y) = 1 + nodF (wr5 y) := by rw [wrV, nodV_mk, nodL]
      omega
  have h1 := key xs (fun x hx => by
    obtain ⟨i, hi, rfl⟩ := List.getElem_of_mem hx
    obtain ⟨a, _, b, _⟩ := fewOne_is (hf i hi)
    exact ⟨a, b⟩)
  rw [wrL, nodV_mk, nodF]
  omega
theorem wr5_len (x : Ch) : (wr5 x).length ≤ 5 ∧ (wr4 x).length ≤ 4 ∧ (wr3 x).length ≤ 3 := by
  have f1 : (if keyB x = true then [(kAt, vI x.pos)] else []).length ≤ 1 := by split <;> simp
  have f2 : (if oldB x.op = true then [(kOld, x.o)] else []).length ≤ 1 := by split <;> simp
  have f3 : (if newB x.op = true then [(kNew, x.n)] else []).length ≤ 1 := by split <;> simp
  have e : (wr2 x).length = 2 := rfl
  unfold wr5 wr4 wr3
  simp only [List.length_append, e]
  omega
/-! The map under way. -/
def St3 (wm w : World) (g B : Nat) (fl : List (ByteArray × V)) : Prop := ∃ F, MapAt w g B F fl ∧ Below g wm w
theorem St3.below {wm w w' : World} {g B : Nat} {fl : List (ByteArray × V)} (h : St3 wm w g B fl) (hb : Below w.heap.size w w') : St3 wm w' g B fl := by
  obtain ⟨F, h1, h2⟩ := h
  exact ⟨F, h1.below hb, h2.trans (hb.mono (Nat.le_of_lt h1.lt))⟩
theorem St3.lt {wm w : World} {g B : Nat} {fl : List (ByteArray × V)} (h : St3 wm w g B fl) : g < w.heap.size := by
  obtain ⟨F, h1, h2⟩ := h
  exact h1.lt
theorem St3.b {wm w : World} {g B : Nat} {fl : List (ByteArray × V)} (h : St3 wm w g B fl) : Below g wm w := by
  obtain ⟨F, h1, h2⟩ := h
  exact h2
theorem add_leaf (key : ByteArray) (h : Hd) (wm w : World) (g B : Nat) (fl : List (ByteArray × V)) (hs : St3 wm w g B fl) (hB : B ≤ g) (hk : key.size ≤ 1000000000) (hl : fl.length < 1000) (ok : HdOk h) (hb : h.bytes = []) :
    Calls Tryz.prog 32 #[.string key, aggV ⟨h, .slice none 0 0, .slice none 0 0, .slice none 0 0⟩, .pointer (some ⟨g, 0, none⟩)] w fun e w' => e = .returned (.tuple #[]) ∧ St3 wm w' g B (fl ++ [(key, .mk h [] [])]) := by
  obtain ⟨F, h1, h2⟩ := hs
  refine (add_any key _ _ w g B F fl h1 hB hk hl (leaf_rd h ok hb w _)).mono fun e w' hp => ?_
  obtain ⟨F', he, h3, h4⟩ := hp
  exact ⟨he, F', h3, h2.trans h4⟩
theorem add_copy (key : ByteArray) (c : VC) (x : V) (wm w w1 : World) (g B : Nat) (fl : List (ByteArray × V)) (hs : St3 wm w g B fl) (hb1 : Below w.heap.size w w1) (hx : RdI w1 (fun b => w.heap.size ≤ b) c x) (hB : B ≤ g) (hk : key.size ≤ 1000000000) (hl : fl.length < 1000) :
    Calls Tryz.prog 32 #[.string key, aggV c, .pointer (some ⟨g, 0, none⟩)] w1 fun e w' => e = .returned (.tuple #[]) ∧ St3 wm w' g B (fl ++ [(key, x)]) := by
  obtain ⟨F, h1, h2⟩ := hs
  have hlt := h1.lt
  have hblk := h1.2.blk
  refine (add_any key c x w1 g B F fl (h1.below hb1) hB hk hl (hx.mono fun b hb => ⟨.inr (by omega), fun h => by have := hblk b h.symm; omega⟩)).mono fun e w' hp => ?_
  obtain ⟨F', he, h3, h4⟩ := hp
  exact ⟨he, F', h3, (h2.trans (hb1.mono (Nat.le_of_lt hlt))).trans h4⟩
/-! The list under way. -/
def ListAt (w : World) (g B : Nat) (F : Value) (l : List V) : Prop :=
  w.heap[g]? = some (.cells (VC.cells ⟨hdK 6, .slice none 0 0, F, .slice none 0 0⟩).toArray 30 (0, 0)) ∧ OwnN 30 13 VC.cells RdI (TB B g) w (g + 1) F l
theorem ListAt.lt {w : World} {g B : Nat} {F : Value} {l : List V} (h : ListAt w g B F l) : g < w.heap.size := by
  rcases Nat.lt_or_ge g w.heap.size with h' | h'
  · exact h'
  · have := h.1
    rw [Array.getElem?_eq_none h'] at this
    cases this
theorem ListAt.below {w w' : World} {g B : Nat} {F : Value} {l : List V} (h : ListAt w g B F l) (hb : Below w.heap.size w w') : ListAt w' g B F l :=
  ⟨(hb.block g h.lt).trans h.1, h.2.below stbV hb⟩
theorem ListAt.rdS {w : World} {g B : Nat} {F : Value} {l : List V} (h : ListAt w g B F l) (hl : l.length ≤ 140737488351232) {S : Nat → Prop} (hT : ∀ b, TB B g b → S b) : RdI w S ⟨hdK 6, .slice none 0 0, F, .slice none 0 0⟩ (.mk (hdK 6) l []) := by
  have nb : ∀ S : Nat → Prop, BlkIn S (.slice none 0 0) := fun S g o p n cap hv _ => by cases hv
  obtain ⟨lc, h1, h2, h3⟩ := h.2.sl stbV cells_len ⟨hdK 0, .slice none 0 0, .slice none 0 0, .slice none 0 0⟩ hl (S := S) hT (fun b hb _ => hT b (.inr hb))
  exact RdI.of_rows (okK 6 ⟨by decide, by decide⟩) Sl.nil (nb _) ⟨lc, h1, h2, h3⟩ ⟨fun _ => (⟨#[]⟩, ⟨hdK 0, .slice none 0 0, .slice none 0 0, .slice none 0 0⟩), Sl.nil, fun i hi => absurd hi (Nat.not_lt_zero _), nb _⟩
theorem ListAt.rd {w : World} {g B : Nat} {F : Value} {l : List V} (h : ListAt w g B F l) (hl : l.length ≤ 140737488351232) : RdV w ⟨hdK 6, .slice none 0 0, F, .slice none 0 0⟩ (.mk (hdK 6) l []) := h.rdS hl (fun _ _ => trivial)
/-- What Write hands back. -/
def WrPost (w : World) (xs : List Ch) (e : Ending) (w' : World) : Prop := ∃ c, e = .returned (.tuple #[aggV c, .int .i64 ((wrR xs).2 : Nat)]) ∧ RdV w' c (wrR xs).1 ∧ Below w.heap.size w w'
end Go.Proofs.YthdninnjjmhpfaaGreatDoor

namespace Go.Proofs.YthdninnjjmhpfaaGreatDoor
open Go.RowKit Go.Shelf
set_option maxHeartbeats 1000000
set_option maxRecDepth 100000

def digZ (n : Nat) : List UInt8 := if n = 0 then [] else Lib.decDigits n
theorem digZ_step (n : Nat) (h : 0 < n) : digZ n = digZ (n / 10) ++ [UInt8.ofNat (48 + n % 10)] := by
  unfold digZ
  rw [if_neg (by omega), Lib.decDigits]
  split
  · rename_i h10
    rw [if_pos (by omega), Nat.mod_eq_of_lt h10]
    rfl
  · rename_i h10
    rw [if_neg (by omega)]
theorem digZ_len (n : Nat) (h : n ≤ 65536) : (digZ n).length ≤ 5 := by
  unfold digZ
  split
  · simp
  · exact decDigits_len n h
theorem FromInt_any (n : Nat) (hn : n ≤ 65536) (w : World) :
    Calls Tryz.prog 155 #[.int .i64 n] w fun e w' => e = .returned (.string ⟨(digZ n).toArray⟩) ∧ Below w.heap.size w w' := by
  have hnl := digZ_len n hn
  go_enter Tryz.func155, Tryz.ntmps155
  go_wp2_with fail
  go_loopw [0, 3] (fun m t wr => ∃ (k : Nat) (acc : ByteArray), k ≤ 65536 ∧ m = .int .i64 k ∧ t = .string acc ∧ Hid (digZ n = digZ k ++ L acc) ∧ Below w.heap.size w wr) (fun m _ _ => (intOf m).toNat)
  case atStart => exact ⟨n, ⟨#[]⟩, hn, rfl, rfl, by unfold Hid; simp [L], Below.refl _ _⟩
  case round =>
    obtain ⟨k, acc, hk, rfl, rfl, HD, hbw⟩ := hrel
    have hz := hbw.size
    by_cases h0 : k = 0
    · have HF : Hid (digZ n = L acc) := by unfold Hid; rw [HD.out, h0]; rfl
      have hk0 : ¬ (0 : Int) < k := by omega
      clear HD h0
      go_wp2_with fail
      go_ret
      exact ⟨by rw [HF.out]; rfl, hbw⟩
    · have hk0 : (0 : Int) < k := by omega
      have has : acc.size ≤ 5 := by
        have h := congrArg List.length HD.out
        rw [List.length_append, L_len] at h
        omega
      have hcv := conv1 wr (48 + (k : Int) % 10)
      have hbt : (48 + (k : Int) % 10).toNat = 48 + k % 10 := by omega
      have HF : Hid (digZ n = digZ (k / 10) ++ L (⟨#[48 + UInt8.ofNat (k % 10)]⟩ ++ acc)) := by
        unfold Hid
        rw [HD.out, digZ_step k (by omega), L_append]
        simp [L]
      have m0 : 0 ≤ (k : Int) % 10 := by omega
      have m1 : (k : Int) % 10 < 10 := by omega
      have hkd : ((k : Int) / 10) = ((k / 10 : Nat) : Int) := by omega
      have HKD := Lib.hid hkd
      clear HD h0 hbt hkd
      go_wp2_with fail
      refine ⟨⟨k / 10, _, by omega, by rw [HKD.out], rfl, HF, hbw.alloc hz _⟩, by simp [intOf]; omega⟩
theorem Number_any (n : Int) (h0 : 0 ≤ n) (h1 : n ≤ 65536) (w : World) :
    Calls Tryz.prog 152 #[.int .i64 n] w fun e w' => e = .returned (.string ⟨(Lib.itoa n).toArray⟩) ∧ Below w.heap.size w w' := by
  obtain ⟨k, rfl⟩ : ∃ k : Nat, n = (k : Int) := ⟨n.toNat, by omega⟩
  have hi : Lib.itoa (k : Int) = Lib.decDigits k := by unfold Lib.itoa; rw [if_neg (by omega)]; simp
  by_cases hk : k = 0
  · have HF : Hid (Lib.itoa (k : Int) = [48]) := by unfold Hid; rw [hi, hk, Lib.decDigits]; rfl
    have e0 : ((k : Int) == 0) = true := by rw [beq_iff_eq]; omega
    clear hi hk
    go_enter Tryz.func152, Tryz.ntmps152
    go_wp2_with fail
    go_ret
    exact ⟨by rw [HF.out]; rfl, Below.refl _ _⟩
  · have HF : Hid (Lib.itoa (k : Int) = digZ k) := by unfold Hid digZ; rw [hi, if_neg hk]
    have e0 : ((k : Int) == 0) = false := by rw [beq_eq_false_iff_ne]; omega
    have HFI := Lib.hid (FromInt_any k (by omega) w)
    clear hi hk
    go_enter Tryz.func152, Tryz.ntmps152
    go_wp2_with fail
    refine HFI.out.mono ?_
    rintro e w1 ⟨rfl, hb⟩
    go_wp2_with fail
    go_ret
    exact ⟨by rw [HF.out]; rfl, hb⟩
theorem sub_hex : ∀ n : Fin 16, (⟨#[48, 49, 50, 51, 52, 53, 54, 55, 56, 57, 97, 98, 99, 100, 101, 102]⟩ : ByteArray).extract n.val (n.val + 1) = ⟨#[hx n.val]⟩ := by decide +kernel
theorem sign_any (b : UInt8) (w : World) :
    Calls Tryz.prog 154 #[.int .u8 b.toNat] w fun e w' => e = .returned (.string ⟨(sgn b).toArray⟩) ∧ Below w.heap.size w w' := by
  have hb255 : b.toNat < 256 := b.toNat_lt
  by_cases c1 : b.toNat = 34
  · have e1 : ((b.toNat : Int) == 34) = true := beqB _ _ (by omega)
    have HF : Hid (sgn b = [92, 34]) := by unfold Hid sgn; rw [if_pos c1]
    clear c1 
    go_enter Tryz.func154, Tryz.ntmps154
    go_wp2_with fail
    go_ret
    exact ⟨by rw [HF.out]; rfl, Below.refl _ _⟩
  have e1 : ((b.toNat : Int) == 34) = false := beqNB _ _ (by omega)
  by_cases c2 : b.toNat = 92
  · have e2 : ((b.toNat : Int) == 92) = true := beqB _ _ (by omega)
    have HF : Hid (sgn b = [92, 92]) := by unfold Hid sgn; rw [if_neg c1, if_pos c2]
    clear c2 c1
    go_enter Tryz.func154, Tryz.ntmps154
    go_wp2_with fail
    go_ret
    exact ⟨by rw [HF.out]; rfl, Below.refl _ _⟩
  have e2 : ((b.toNat : Int) == 92) = false := beqNB _ _ (by omega)
  by_cases c3 : b.toNat = 10
  · have e3 : ((b.toNat : Int) == 10) = true := beqB _ _ (by omega)
    have HF : Hid (sgn b = [92, 110]) := by unfold Hid sgn; rw [if_neg c1, if_neg c2, if_pos c3]
    clear c3 c1 c2
    go_enter Tryz.func154, Tryz.ntmps154
    go_wp2_with fail
    go_ret
    exact ⟨by rw [HF.out]; rfl, Below.refl _ _⟩
  have e3 : ((b.toNat : Int) == 10) = false := beqNB _ _ (by omega)
  by_cases c4 : b.toNat = 9
  · have e4 : ((b.toNat : Int) == 9) = true := beqB _ _ (by omega)
    have HF : Hid (sgn b = [92, 116]) := by unfold Hid sgn; rw [if_neg c1, if_neg c2, if_neg c3, if_pos c4]
    clear c4 c1 c2 c3
    go_enter Tryz.func154, Tryz.ntmps154
    go_wp2_with fail
    go_ret
    exact ⟨by rw [HF.out]; rfl, Below.refl _ _⟩
  have e4 : ((b.toNat : Int) == 9) = false := beqNB _ _ (by omega)
  by_cases c5 : b.toNat = 13
  · have e5 : ((b.toNat : Int) == 13) = true := beqB _ _ (by omega)
    have HF : Hid (sgn b = [92, 114]) := by unfold Hid sgn; rw [if_neg c1, if_neg c2, if_neg c3, if_neg c4, if_pos c5]
    clear c5 c1 c2 c3 c4
    go_enter Tryz.func154, Tryz.ntmps154
    go_wp2_with fail
    go_ret
    exact ⟨by rw [HF.out]; rfl, Below.refl _ _⟩
  have e5 : ((b.toNat : Int) == 13) = false := beqNB _ _ (by omega)
  by_cases c6 : b.toNat = 127
  · have e6 : ((b.toNat : Int) == 127) = true := beqB _ _ (by omega)
    have HF : Hid (sgn b = [92, 117, 123, 55, 102, 125]) := by rw [u8_of c6]; rfl
    clear c1 c2 c3 c4 c5 c6
    go_enter Tryz.func154, Tryz.ntmps154
    go_wp2_with fail
    go_ret
    exact ⟨by rw [HF.out]; rfl, Below.refl _ _⟩
  have e6 : ((b.toNat : Int) == 127) = false := beqNB _ _ (by omega)
  by_cases c7 : 32 ≤ b.toNat
  · have e7 : (32 : Int) ≤ b.toNat := by omega
    have HF : Hid (sgn b = [b]) := by unfold Hid sgn; rw [if_neg c1, if_neg c2, if_neg c3, if_neg c4, if_neg c5, if_neg (by omega)]
    have hcv := conv1 w (b.toNat : Int)
    have hbb : UInt8.ofNat ((b.toNat : Int)).toNat = b := by simp
    rw [hbb] at hcv
    clear c1 c2 c3 c4 c5 c6 c7 hbb
    go_enter Tryz.func154, Tryz.ntmps154
    go_wp2_with fail
    go_ret
    exact ⟨by rw [HF.out]; rfl, (Below.refl _ w).alloc (Nat.le_refl _) _⟩
  have e7 : ¬ (32 : Int) ≤ b.toNat := by omega
  have HF : Hid (sgn b = 92 :: 117 :: 123 :: (hexT b.toNat ++ [125])) := by unfold Hid sgn; rw [if_neg c1, if_neg c2, if_neg c3, if_neg c4, if_neg c5, if_pos (by omega)]
  by_cases c8 : b.toNat < 16
  · have e8 : (b.toNat : Int) < 16 := by omega
    have HX : Hid ((⟨#[48, 49, 50, 51, 52, 53, 54, 55, 56, 57, 97, 98, 99, 100, 101, 102]⟩ : ByteArray).extract b.toNat (b.toNat + 1) = ⟨#[hx b.toNat]⟩) := sub_hex ⟨b.toNat, c8⟩
    have HT : Hid (hexT b.toNat = [hx b.toNat]) := by unfold Hid hexT; rw [if_pos c8]
    clear c1 c2 c3 c4 c5 c6 c7 c8
    go_enter Tryz.func154, Tryz.ntmps154
    go_wp2_with fail
    go_ret
    refine ⟨?_, Below.refl _ _⟩
    rw [HF.out, HT.out]
    show Ending.returned (.string (⟨#[92, 117, 123]⟩ ++ ByteArray.extract _ _ _ ++ ⟨#[125]⟩)) = _
    rw [HX.out]
    exact congrArg (fun x => Ending.returned (.string x)) (L_inj (by rw [L_append, L_append]; rfl))
  · have e8 : ¬ (b.toNat : Int) < 16 := by omega
    have HX : Hid ((⟨#[48, 49, 50, 51, 52, 53, 54, 55, 56, 57, 97, 98, 99, 100, 101, 102]⟩ : ByteArray).extract (b.toNat - 16) (b.toNat - 16 + 1) = ⟨#[hx (b.toNat - 16)]⟩) := sub_hex ⟨b.toNat - 16, by omega⟩
    have HT : Hid (hexT b.toNat = [49, hx (b.toNat - 16)]) := by
      unfold Hid hexT
      rw [if_neg c8, show b.toNat / 16 = 1 by omega, show b.toNat % 16 = b.toNat - 16 by omega]
      rfl
    have s1 : (0 : Int) ≤ (b.toNat : Int) - 16 := by omega
    clear c1 c2 c3 c4 c5 c6 c7
    go_enter Tryz.func154, Tryz.ntmps154
    go_wp2_with fail
    go_ret
    refine ⟨?_, Below.refl _ _⟩
    rw [HF.out, HT.out]
    show Ending.returned (.string (⟨#[92, 117, 123, 49]⟩ ++ ByteArray.extract _ _ _ ++ ⟨#[125]⟩)) = _
    rw [show b.toNat - 15 = b.toNat - 16 + 1 by omega, HX.out]
    exact congrArg (fun x => Ending.returned (.string x)) (L_inj (by rw [L_append, L_append]; rfl))
end Go.Proofs.YthdninnjjmhpfaaGreatDoor

namespace Go.Proofs.YthdninnjjmhpfaaGreatDoor
open Go.RowKit Go.Shelf
set_option maxHeartbeats 1000000
set_option maxRecDepth 100000

theorem one8_any (s : St) (hs : okSt s = true) (w : World) :
    Calls Tryz.prog 118 #[stpV s] w fun e w' => e = .returned (.string ⟨(stepT s).toArray⟩) ∧ Below w.heap.size w w' := by
  obtain ⟨b, key, ix⟩ := s
  simp only [stpV]
  have hbx : ∀ o, Below w.heap.size w (w.alloc o) := fun o => (Below.refl _ w).alloc (Nat.le_refl _) o
  have HBX := Lib.hid hbx
  clear hbx
  cases b with
  | true =>
    rw [okSt_true, decide_eq_true_eq] at hs
    obtain ⟨_, h0, h1⟩ := hs
    have hle := itoa_len ix h0 h1
    obtain ⟨H, hH⟩ : ∃ H : ByteArray, H = ⟨(Lib.itoa ix).toArray⟩ := ⟨_, rfl⟩
    have hHs : H.size ≤ 5 := by rw [← L_len, hH]; exact hle
    have HN := Lib.hid (Number_any ix h0 h1)
    rw [← hH] at HN
    have HF : Hid ((⟨(stepT (true, key, ix)).toArray⟩ : ByteArray) = ⟨#[91]⟩ ++ H ++ ⟨#[93]⟩) := by
      unfold Hid
      apply L_inj
      rw [L_append, L_append, hH]
      rfl
    have h1' : Hid (ix ≤ 65536) := h1
    clear hH hle h1
    go_enter Tryz.func118, Tryz.ntmps118
    go_wp2_with fail
    refine (HN.out _).mono ?_
    rintro e w1 ⟨rfl, hb1⟩
    have hbw := (HBX.out _).trans (hb1.mono (HBX.out _).size)
    clear hb1
    go_wp2_with fail
    go_ret
    exact ⟨by rw [HF.out]; rfl, hbw⟩
  | false =>
    rw [okSt_false, decide_eq_true_eq] at hs
    obtain ⟨rfl, hks, _⟩ := hs
    have HNM := Lib.hid (fun w' => Name8_any key w' (by omega))
    cases hn : isName (L key)
    case true =>
      rw [hn] at HNM
      have HF : Hid ((⟨(stepT (false, key, 0)).toArray⟩ : ByteArray) = ⟨#[46]⟩ ++ key) := by
        unfold Hid
        apply L_inj
        rw [L_append]
        show stepT (false, key, 0) = _
        unfold stepT
        simp only [Bool.false_eq_true, if_false, hn, if_true]
        rfl
      clear hn
      go_enter Tryz.func118, Tryz.ntmps118
      go_wp2_with fail
      refine (HNM.out _).mono ?_
      rintro e w1 ⟨rfl, rfl⟩
      go_wp2_with fail
      go_ret
      exact ⟨by rw [HF.out]; rfl, HBX.out _⟩
    rw [hn] at HNM
    have HF : Hid (stepT (false, key, 0) = 46 :: 34 :: ((L key).flatMap sgn ++ [34])) := by
      unfold Hid stepT
      simp [hn]
    clear hn
    go_enter Tryz.func118, Tryz.ntmps118
    go_wp2_with fail
    refine (HNM.out _).mono ?_
    rintro e w1 ⟨rfl, rfl⟩
    have hcell := cell_of_alloc w #[.bool false, .string key, .int .i64 0] 94 1
    have hbw0 := HBX.out (.cells #[.bool false, .string key, .int .i64 0] 94)
    have hlt0 : w.heap.size < (w.alloc (.cells #[.bool false, .string key, .int .i64 0] 94)).heap.size := by simp
    simp only [show (#[Value.bool false, .string key, .int .i64 0] : Array Value)[1]? = some (.string key) from rfl] at hcell
    have HCL := Lib.hid hcell
    have HB0 := Lib.hid hbw0
    have HLT := Lib.hid hlt0
    clear hcell hbw0 hlt0
    go_wp2_with fail
    go_loopw [3, 4] (fun t i wr => ∃ (k : Nat) (acc : ByteArray), k ≤ key.size ∧ i = .int .i64 k ∧ t = .string acc ∧ acc.size ≤ 6 * k + 2 ∧ wr.cell? ⟨w.heap.size, 1, none⟩ = some (.string key) ∧ w.heap.size < wr.heap.size ∧ Hid (L acc = 46 :: 34 :: ((L key).take k).flatMap sgn) ∧ Below w.heap.size w wr) (fun _ i _ => key.size - (intOf i).toNat)
    case atStart => exact ⟨0, ⟨#[46, 34]⟩, Nat.zero_le _, rfl, rfl, by show 2 ≤ _; omega, HCL.out, HLT.out, rfl, HB0.out⟩
    case round =>
      clear HCL HB0 HLT
      obtain ⟨k, acc, hk, rfl, rfl, hal, hc, hlt, HA, hbw⟩ := hrel
      have hz := hbw.size
      by_cases hkk : k < key.size
      case neg =>
        obtain rfl : k = key.size := by omega
        have HX : Hid ((⟨(stepT (false, key, 0)).toArray⟩ : ByteArray) = acc ++ ⟨#[34]⟩) := by
          unfold Hid
          apply L_inj
          rw [L_append, HA.out, List.take_of_length_le (by rw [L_len]; exact Nat.le_refl _)]
          show stepT (false, key, 0) = _
          rw [HF.out]
          rfl
        clear HA HF
        go_wp2_with fail
        go_ret
        exact ⟨by rw [HX.out]; rfl, hbw⟩
      have HSG := Lib.hid (sign_any key[k] wr)
      obtain ⟨T, hT⟩ : ∃ T : ByteArray, T = ⟨(sgn key[k]).toArray⟩ := ⟨_, rfl⟩
      have hTs : T.size ≤ 6 := by rw [← L_len, hT]; exact sgn_len _
      have hLA : L (acc ++ T) = 46 :: 34 :: ((L key).take (k + 1)).flatMap sgn := by
        rw [L_append, HA.out, hT, take_snoc key k hkk]
        simp [L]
      have HLA := Lib.hid hLA
      rw [← hT] at HSG
      clear hT hLA HA
      go_wp2_with fail
      refine HSG.out.mono ?_
      rintro e w2 ⟨rfl, hb2⟩
      have hc2 : w2.cell? ⟨w.heap.size, 1, none⟩ = some (.string key) := by rw [hb2.cell (p := ⟨w.heap.size, 1, none⟩) hlt]; exact hc
      have hbw2 := hbw.trans (hb2.mono hz)
      have hlt2 : w.heap.size < w2.heap.size := Nat.lt_of_lt_of_le hlt hb2.size
      clear hc hb2 HSG
      go_wp2_with fail
      exact ⟨⟨k + 1, acc ++ T, by omega, rfl, rfl, by rw [ByteArray.size_append]; omega, hc2, hlt2, HLA, hbw2⟩, by simp [intOf]; omega⟩
theorem stepT_len (s : St) (hs : okSt s = true) : (stepT s).length ≤ 7000 := by
  obtain ⟨b, key, ix⟩ := s
  cases b with
  | true =>
    rw [okSt_true, decide_eq_true_eq] at hs
    have := itoa_len ix hs.2.1 hs.2.2
    show (91 :: (Lib.itoa ix ++ [93])).length ≤ _
    simp only [List.length_cons, List.length_append, List.length_nil]
    omega
  | false =>
    rw [okSt_false, decide_eq_true_eq] at hs
    have h6 := flat_len6 (L key)
    rw [L_len] at h6
    unfold stepT
    simp only [Bool.false_eq_true, if_false]
    split
    · simp only [List.length_cons, L_len]; omega
    · simp only [List.length_cons, List.length_append, List.length_nil]; omega
theorem RText_any (v : Value) (l : List St) (w : World) (h : Rd w v l) (hv : validP l = true) :
    Calls Tryz.prog 83 #[v] w fun e w' => e = .returned (.string ⟨(textL l).toArray⟩) ∧ Below w.heap.size w w' := by
  obtain ⟨a, cap, rfl, hcap, hmax, _, hl⟩ := h
  obtain ⟨hok, h48⟩ := all_ok hv
  clear hv
  by_cases h0 : l = []
  · subst h0
    clear hl
    go_enter Tryz.func83, Tryz.ntmps83
    go_wp2_with fail
    go_ret
    exact ⟨rfl, Below.refl _ _⟩
  have hlen : 0 < l.length := List.length_pos_iff.2 h0
  obtain ⟨g, o, rfl, hg, hat⟩ := hl h0
  obtain ⟨c0, c1, c2⟩ := hat 0 hlen
  simp only [Nat.zero_mul, Nat.add_zero] at c0
  clear c1 c2 hl
  have HT : Hid (textL l = preT l ++ l.flatMap stepT) := by unfold Hid textL; rw [if_neg (by simp [h0])]
  have HP : Hid (preT l = if l[0].1 then [46] else []) := by
    unfold Hid
    cases l with
    | nil => exact absurd rfl h0
    | cons s p => rfl
  have HA := Lib.hid hat; clear hat
  have HOK := Lib.hid hok; clear hok
  have hne0 : ((l.length : Int) == 0) = false := by rw [beq_eq_false_iff_ne]; omega
  clear h0
  obtain ⟨a0, ha0⟩ : ∃ a0 : ByteArray, a0 = if l[0].1 then ⟨#[46]⟩ else ⟨#[]⟩ := ⟨_, rfl⟩
  have HI : Hid (L a0 = preT l ∧ a0.size ≤ 1) := by
    unfold Hid
    rw [HP.out, ha0]
    cases l[0].1
    · exact ⟨rfl, Nat.zero_le _⟩
    · exact ⟨rfl, Nat.le_refl _⟩
  clear HP
  cases hb : l[0].1
  all_goals
    rw [hb] at c0 ha0
    simp only [if_true, Bool.false_eq_true, if_false] at ha0
    subst ha0
    clear hb
    go_enter Tryz.func83, Tryz.ntmps83
    go_wp2_with fail
    go_loopw [3, 4] (fun t i wr => ∃ (k : Nat) (acc : ByteArray), k ≤ l.length ∧ i = .int .i64 k ∧ t = .string acc ∧ acc.size ≤ 7000 * k + 1 ∧ Hid (L acc = preT l ++ (l.take k).flatMap stepT) ∧ Below w.heap.size w wr) (fun _ i _ => l.length - (intOf i).toNat)
    case atStart => exact ⟨0, _, Nat.zero_le _, rfl, rfl, by have := HI.out.2; omega, by unfold Hid; rw [HI.out.1]; simp, Below.refl _ _⟩
    case round =>
      clear HI c0
      obtain ⟨k, acc, hk, rfl, rfl, hal, HX, hbw⟩ := hrel
      have hz := hbw.size
      by_cases hlt : k < l.length
      case neg =>
        obtain rfl : k = l.length := by omega
        have HF : Hid ((⟨(textL l).toArray⟩ : ByteArray) = acc) := by
          unfold Hid
          apply L_inj
          rw [HX.out, List.take_of_length_le (Nat.le_refl _)]
          exact HT.out
        clear HX HT
        go_wp2_with fail
        go_ret
        exact ⟨by rw [HF.out]; rfl, hbw⟩
      obtain ⟨d0, d1, d2⟩ := HA.out k hlt
      have hs := okSt_at HOK.out k hlt
      have hsl := stepT_len _ hs
      have HON := Lib.hid (one8_any l[k] hs wr)
      obtain ⟨T, hT⟩ : ∃ T : ByteArray, T = ⟨(stepT l[k]).toArray⟩ := ⟨_, rfl⟩
      have hTs : T.size ≤ 7000 := by rw [← L_len, hT]; exact hsl
      have HX2 : Hid (L (acc ++ T) = preT l ++ (l.take (k + 1)).flatMap stepT) := by
        unfold Hid
        rw [L_append, HX.out, hT, text_snoc l k hlt, List.append_assoc]
        rfl
      rw [← hT] at HON
      rw [← hbw.cell (p := ⟨g, o + k * 3, none⟩) hg] at d0
      rw [← hbw.cell (p := ⟨g, o + k * 3 + 1, none⟩) hg] at d1
      rw [← hbw.cell (p := ⟨g, o + k * 3 + 2, none⟩) hg] at d2
      clear hs hsl hT HX
      generalize l[k] = s at *
      obtain ⟨b, key, ix⟩ := s
      simp only [stpV] at d0 d1 d2 HON
      go_wp2_with fail
      refine HON.out.mono ?_
      rintro e w2 ⟨rfl, hb2⟩
      have hbw2 := hbw.trans (hb2.mono hz)
      clear hb2 HON d0 d1 d2
      go_wp2_with fail
      exact ⟨⟨k + 1, acc ++ T, by omega, rfl, rfl, by rw [ByteArray.size_append]; omega, HX2, hbw2⟩, by simp [intOf]; omega⟩
end Go.Proofs.YthdninnjjmhpfaaGreatDoor
