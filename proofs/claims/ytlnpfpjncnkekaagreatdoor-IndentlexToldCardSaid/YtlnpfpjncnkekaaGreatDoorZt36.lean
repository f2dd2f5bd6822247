/- The law IndentlexTold walked. Conditions: the tables of unicode/utf8 as they are, a value of internal/bytealg.MaxLen. -/
import Derived.Test.YtlnpfpjncnkekaaGreatDoorZt27
import Derived.Test.YtlnpfpjncnkekaaGreatDoorZt26
import Derived.Test.YtlnpfpjncnkekaaGreatDoorZt17
import Derived.Test.YtlnpfpjncnkekaaGreatDoorZt30
import Derived.Test.YtlnpfpjncnkekaaGreatDoorZt35
namespace Go.Proofs.YtlnpfpjncnkekaaGreatDoor
open Go.RowKit
set_option maxHeartbeats 4000000
set_option maxRecDepth 100000

def Ret (v : Value) (w : World) (e : Ending) (w' : World) : Prop := e = .returned v ∧ Below w.heap.size w w'
theorem room11 (k : Int) (bl ng : Bool) (ds : ByteArray) (ex tk dy na ofs : Int) (tx : ByteArray) (a1 a2 a3 : Option Addr) (n1 m1 n2 m2 n3 m3 : Nat) (w : World) :
    Calls Tryz.prog 13 #[.agg #[.int .i64 k, .bool bl, .bool ng, .string ds, .int .i64 ex, .int .i64 tk, .int .i64 dy, .int .i64 na, .int .i64 ofs, .string tx, .slice a1 n1 m1, .slice a2 n2 m2, .slice a3 n3 m3], .int .i64 1, .int .i64 1] w (Ret (.int .i64 (if n2 = 0 ∧ n3 = 0 then 0 else -1)) w) := by
  have hb : ∀ x, Below w.heap.size w (w.alloc x) := fun x => (Below.refl _ _).alloc (Nat.le_refl _) _
  have HB := Lib.hid hb
  clear hb
  by_cases h2 : n2 = 0
  case neg =>
    rw [if_neg (fun h => h2 h.1)]
    have h2i : (0 < (n2 : Int)) = True := eq_true (by omega)
    have h2n : (0 < n2) = True := eq_true (by omega)
    clear h2
    go_enter Tryz.func13, Tryz.ntmps13
    go_wp2_with fail
    go_ret
    exact ⟨rfl, HB.out _⟩
  subst h2
  by_cases h3 : n3 = 0
  case neg =>
    rw [if_neg (fun h => h3 h.2)]
    have h2i : (0 < (n3 : Int)) = True := eq_true (by omega)
    have h2n : (0 < n3) = True := eq_true (by omega)
    clear h3
    go_enter Tryz.func13, Tryz.ntmps13
    go_wp2_with fail
    go_ret
    exact ⟨rfl, HB.out _⟩
  subst h3
  rw [if_pos ⟨rfl, rfl⟩]
  go_enter Tryz.func13, Tryz.ntmps13
  go_wp2_with fail
  refine wp_loop_rounds 1 ?_
  rw [rounds_succ]
  go_wp2_with fail
  refine wp_loop_rounds 1 ?_
  rw [rounds_succ]
  go_wp2_with fail
  go_ret
  exact ⟨rfl, HB.out _⟩
theorem Small11 (k : Int) (bl ng : Bool) (ds : ByteArray) (ex tk dy na ofs : Int) (tx : ByteArray) (a1 a2 a3 : Option Addr) (n1 m1 n2 m2 n3 m3 : Nat) (w : World) :
    Calls Tryz.prog 5 #[.agg #[.int .i64 k, .bool bl, .bool ng, .string ds, .int .i64 ex, .int .i64 tk, .int .i64 dy, .int .i64 na, .int .i64 ofs, .string tx, .slice a1 n1 m1, .slice a2 n2 m2, .slice a3 n3 m3], .int .i64 1, .int .i64 1] w (Ret (.bool (decide (n2 = 0 ∧ n3 = 0))) w) := by
  have HR := Lib.hid (fun w' => room11 k bl ng ds ex tk dy na ofs tx a1 a2 a3 n1 m1 n2 m2 n3 m3 w')
  obtain ⟨q, hq⟩ : ∃ q, q = decide (n2 = 0 ∧ n3 = 0) := ⟨_, rfl⟩
  have HRQ : Hid (∀ w', Calls Tryz.prog 13 #[.agg #[.int .i64 k, .bool bl, .bool ng, .string ds, .int .i64 ex, .int .i64 tk, .int .i64 dy, .int .i64 na, .int .i64 ofs, .string tx, .slice a1 n1 m1, .slice a2 n2 m2, .slice a3 n3 m3], .int .i64 1, .int .i64 1] w' (Ret (.int .i64 (if q = true then 0 else -1)) w')) := by
    intro w'
    have := HR.out w'
    rw [hq]
    simpa only [decide_eq_true_eq] using this
  rw [← hq]
  clear HR hq
  cases q
  all_goals
    go_enter Tryz.func5, Tryz.ntmps5
    go_wp2_with fail
    go_upto_region 1 with fail
    generalize hW : World.alloc w _ = w1
    obtain ⟨ha1, -, hz1, hb1⟩ := alloc_of hW
    have HB1 := Lib.hid hb1
    obtain ⟨c0, c1, c2, c3, c4, c5, c6, c7, c8, c9, ca, cb, cc⟩ := row13 ha1
    clear hW hb1 ha1 hz1
    go_wp2_with fail
    refine (HRQ.out _).mono ?_
    rintro e w2 ⟨rfl, hb⟩
    have HB2 := Lib.hid (HB1.out.trans (hb.mono HB1.out.size))
    clear hb HRQ
    go_wp2_with fail
    go_ret
    exact ⟨rfl, HB2.out⟩
def NotZ (w : World) (e : Ending) (w' : World) : Prop := ∃ r : Int, r ≠ 0 ∧ e = .returned (.int .i64 r) ∧ Below w.heap.size w w'
theorem Valid2_big (neg : Bool) (s : ByteArray) (e : Int) (w : World) (hs : 120 < s.size) :
    Calls Tryz.prog 87 #[.agg #[.bool neg, .string s, .int .i64 e]] w (Ret (.bool false) w) := by
  have hq : s.toList.isEmpty = false := by
    rw [Bool.eq_false_iff]
    intro h
    have := isEh.1 h
    have h2 := L_len s
    rw [this] at h2
    simp at h2
    omega
  have h1i : ¬ (s.size : Int) ≤ 120 := by omega
  have hb : ∀ x, Below w.heap.size w (w.alloc x) := fun x => (Below.refl _ _).alloc (Nat.le_refl _) _
  have HB := Lib.hid hb
  clear hb hs
  go_enter Tryz.func87, Tryz.ntmps87
  go_wp2_with fail
  go_ret
  exact ⟨rfl, HB.out _⟩
theorem one_big (h : Hd) (a1 a2 a3 : Option Addr) (m1 n2 m2 n3 m3 : Nat) (w : World) (hd : 120 < h.ds.size) :
    Calls Tryz.prog 42 #[aggV ⟨h, .slice a1 h.bytes.length m1, .slice a2 n2 m2, .slice a3 n3 m3⟩] w (NotZ w) := by
  have HOWN := Lib.hid (fun w => own7_any h (.slice a1 h.bytes.length m1) (.slice a2 n2 m2) (.slice a3 n3 m3) h.bytes.length n2 n3 m1 m2 m3 a1 a2 a3 w rfl rfl rfl rfl)
  obtain ⟨k, bl, ng, ds, ex, tk, dy, na, ofs, tx, bs⟩ := h
  have HV2 := Lib.hid (fun w => Valid2_big ng ds ex w hd)
  clear hd
  generalize ownB ⟨k, bl, ng, ds, ex, tk, dy, na, ofs, tx, bs⟩ n2 n3 = q at *
  simp only at HOWN ⊢
  generalize bs.length = n1 at *
  have HOWN2 : Hid (∀ w', Calls Tryz.prog 86 #[.agg #[.int .i64 k, .bool bl, .bool ng, .string ds, .int .i64 ex, .int .i64 tk, .int .i64 dy, .int .i64 na, .int .i64 ofs, .string tx, .slice a1 n1 m1, .slice a2 n2 m2, .slice a3 n3 m3]] w' fun e w2 => e = .returned (.bool q) ∧ Below w'.heap.size w' w2) := HOWN.out
  clear HOWN
  show Calls Tryz.prog 42 #[.agg #[.int .i64 k, .bool bl, .bool ng, .string ds, .int .i64 ex, .int .i64 tk, .int .i64 dy, .int .i64 na, .int .i64 ofs, .string tx, .slice a1 n1 m1, .slice a2 n2 m2, .slice a3 n3 m3]] w (NotZ w)
  go_enter Tryz.func42, Tryz.ntmps42
  go_upto_region 1 with fail
  generalize hW : World.alloc w _ = w1
  obtain ⟨ha1, -, hz1, hb1⟩ := alloc_of hW
  have HB1 := Lib.hid hb1
  obtain ⟨c0, c1, c2, c3, c4, c5, c6, c7, c8, c9, ca, cb, cc⟩ := row13 ha1
  have HX := Lib.hid ha1
  have HZ : Hid (w.heap.size < w1.heap.size) := by unfold Hid; omega
  clear hW hb1 ha1 hz1
  go_wp2_with fail
  refine (HOWN2.out _).mono ?_
  rintro e w2 ⟨rfl, hb⟩
  have HB2 := Lib.hid (HB1.out.trans (hb.mono HB1.out.size))
  clear c0 c1 c2 c3 c4 c5 c6 c7 c8 c9 ca cb cc HOWN2
  obtain ⟨c0, c1, c2, c3, c4, c5, c6, c7, c8, c9, ca, cb, cc⟩ := row13 ((hb.block _ HZ.out).trans HX.out)
  clear hb
  cases q with
  | false =>
    go_wp2_with fail
    go_ret
    exact ⟨6, by decide, rfl, HB2.out⟩
  | true =>
  go_wp2_with fail
  refine (HV2.out _).mono ?_
  rintro e w3 ⟨rfl, hb⟩
  have HB3 := Lib.hid (HB2.out.trans (hb.mono HB2.out.size))
  clear hb HV2
  go_wp2_with fail
  go_ret
  exact ⟨2, by decide, rfl, HB3.out⟩
theorem Check_big (h : Hd) (a1 a2 a3 : Option Addr) (m1 n2 m2 n3 m3 : Nat) (w : World) (hd : 120 < h.ds.size) :
    Calls Tryz.prog 7 #[aggV ⟨h, .slice a1 h.bytes.length m1, .slice a2 n2 m2, .slice a3 n3 m3⟩] w (NotZ w) := by
  have HO := Lib.hid (fun w' => one_big h a1 a2 a3 m1 n2 m2 n3 m3 w' hd)
  obtain ⟨k, bl, ng, ds, ex, tk, dy, na, ofs, tx, bs⟩ := h
  clear hd
  simp only at HO ⊢
  generalize bs.length = n1 at *
  have HO2 : Hid (∀ w', Calls Tryz.prog 42 #[.agg #[.int .i64 k, .bool bl, .bool ng, .string ds, .int .i64 ex, .int .i64 tk, .int .i64 dy, .int .i64 na, .int .i64 ofs, .string tx, .slice a1 n1 m1, .slice a2 n2 m2, .slice a3 n3 m3]] w' (NotZ w')) := HO.out
  clear HO
  have HL : Hid (∀ w', Calls Tryz.prog 15 #[.agg #[.int .i64 k, .bool bl, .bool ng, .string ds, .int .i64 ex, .int .i64 tk, .int .i64 dy, .int .i64 na, .int .i64 ofs, .string tx, .slice a1 n1 m1, .slice a2 n2 m2, .slice a3 n3 m3], .int .i64 1, .int .i64 0] w' fun e w2 => ∃ r : Int, r ≠ 0 ∧ e = .returned (.tuple #[.int .i64 0, .int .i64 r]) ∧ Below w'.heap.size w' w2) := by
    intro w
    go_enter Tryz.func15, Tryz.ntmps15
    go_upto_region 1 with fail
    generalize hW : World.alloc w _ = w1
    obtain ⟨ha1, -, hz1, hb1⟩ := alloc_of hW
    have HB1 := Lib.hid hb1
    obtain ⟨c0, c1, c2, c3, c4, c5, c6, c7, c8, c9, ca, cb, cc⟩ := row13 ha1
    clear hW hb1 ha1 hz1
    go_wp2_with fail
    refine (HO2.out _).mono ?_
    rintro e w2 ⟨r, hr, rfl, hb⟩
    have HB2 := Lib.hid (HB1.out.trans (hb.mono HB1.out.size))
    have hr0 : (r != 0) = true := by rw [bne_iff_ne]; exact hr
    have HR := Lib.hid hr
    clear hb HO2 hr
    go_wp2_with fail
    go_ret2
    exact ⟨r, HR.out, rfl, HB2.out⟩
  clear HO2
  show Calls Tryz.prog 7 #[.agg #[.int .i64 k, .bool bl, .bool ng, .string ds, .int .i64 ex, .int .i64 tk, .int .i64 dy, .int .i64 na, .int .i64 ofs, .string tx, .slice a1 n1 m1, .slice a2 n2 m2, .slice a3 n3 m3]] w (NotZ w)
  go_enter Tryz.func7, Tryz.ntmps7
  go_upto_region 1 with fail
  generalize hW : World.alloc w _ = w1
  obtain ⟨ha1, -, hz1, hb1⟩ := alloc_of hW
  have HB1 := Lib.hid hb1
  obtain ⟨c0, c1, c2, c3, c4, c5, c6, c7, c8, c9, ca, cb, cc⟩ := row13 ha1
  clear hW hb1 ha1 hz1
  go_wp2_with fail
  refine (HL.out _).mono ?_
  rintro e w2 ⟨r, hr, rfl, hb⟩
  have HB2 := Lib.hid (HB1.out.trans (hb.mono HB1.out.size))
  have HR := Lib.hid hr
  clear hb HL hr
  go_wp2_with fail
  go_ret
  exact ⟨r, HR.out, rfl, HB2.out⟩
end Go.Proofs.YtlnpfpjncnkekaaGreatDoor

namespace Go.Proofs.YtlnpfpjncnkekaaGreatDoor
open Go.RowKit
set_option maxHeartbeats 4000000
set_option maxRecDepth 100000

theorem row13k {w w' : World} {g : Nat} {o : Obj} (h : w.heap[g]? = some o) (hb : Below w.heap.size w w') : w'.heap[g]? = some o := by
  have hz : g < w.heap.size := by
    rcases Nat.lt_or_ge g w.heap.size with h' | h'
    · exact h'
    · rw [Array.getElem?_eq_none h'] at h
      cases h
  exact (hb.block _ hz).trans h
def OneOf (f : FuncId) (av : Array Value) (P : List UInt8 → Prop) (n : Int) (w : World) : Prop := ∀ w', Below w.heap.size w w' → Calls Tryz.prog f av w' fun e w2 => ∃ t, P t ∧ ShP t n w' e w2
theorem look_flat {h : Hd} (h0 : checkV (.mk h [] []) = 0) : oneE h 0 [] = 0 := by
  unfold checkV at h0
  rw [lookV_mk, if_neg (by decide), if_neg (by decide)] at h0
  split at h0
  · exact h0
  · rename_i hh
    exact Classical.byContradiction hh
theorem oneE_flat {h : Hd} (h0 : oneE h 0 [] = 0) : ownB h 0 0 = true ∧ decB h.neg (L h.ds) h.exp = true ∧ (h.kind = 3 → timeB h.tk h.day h.nano h.off = true) := by
  unfold oneE at h0
  split at h0
  · cases h0
  split at h0
  · cases h0
  · rename_i h1 h2
    refine ⟨by cases ho : ownB h 0 0; exact absurd ho h1; rfl, ?_, fun hk => ?_⟩
    · cases hd : decB h.neg (L h.ds) h.exp
      · exact absurd (.inl hd) h2
      · rfl
    · cases hd : timeB h.tk h.day h.nano h.off
      · exact absurd (.inr ⟨hk, hd⟩) h2
      · rfl
theorem one_of {f : FuncId} {av : Array Value} {t : List UInt8} {n : Int} {w : World} (h : ∀ w', Below w.heap.size w w' → Calls Tryz.prog f av w' (ShP t n w')) : OneOf f av (· = t) n w :=
  fun w' hb => (h w' hb).mono fun e w2 hp => ⟨t, rfl, hp⟩
end Go.Proofs.YtlnpfpjncnkekaaGreatDoor

namespace Go.Proofs.YtlnpfpjncnkekaaGreatDoor
open Go.RowKit
set_option maxHeartbeats 4000000
set_option maxRecDepth 100000

theorem ToldCore (k : Int) (bl ng : Bool) (ds : ByteArray) (ex tk dy na ofs : Int) (tx : ByteArray) (bs : List UInt8) (a1 a2 a3 : Option Addr) (n1 m1 n2 m2 n3 m3 : Nat) (w : World) (hE : EnvI w) (c : Bool)
    (hc : 0 ≤ k → k < 6 → n2 = 0 ∧ n3 = 0 → tx.size ≤ 2000 → n1 ≤ 2000 → ∀ w', Below w.heap.size w w' → Calls Tryz.prog 7 #[.agg #[.int .i64 k, .bool bl, .bool ng, .string ds, .int .i64 ex, .int .i64 tk, .int .i64 dy, .int .i64 na, .int .i64 ofs, .string tx, .slice a1 n1 m1, .slice a2 n2 m2, .slice a3 n3 m3]] w' fun e w2 => ∃ r : Int, (r != 0) = c ∧ e = .returned (.int .i64 r) ∧ Below w'.heap.size w' w2)
    (hs : 0 ≤ k → k < 6 → n2 = 0 ∧ n3 = 0 → tx.size ≤ 2000 → n1 ≤ 2000 → c = false → ∃ P : List UInt8 → Prop,
      OneOf 8 #[.agg #[.int .i64 k, .bool bl, .bool ng, .string ds, .int .i64 ex, .int .i64 tk, .int .i64 dy, .int .i64 na, .int .i64 ofs, .string tx, .slice a1 n1 m1, .slice a2 n2 m2, .slice a3 n3 m3]] P 0 w ∧
      (∀ t, P t → Tells ⟨k, bl, ng, ds, ex, tk, dy, na, ofs, tx, bs⟩ t) ∧ HdOk ⟨k, bl, ng, ds, ex, tk, dy, na, ofs, tx, bs⟩ ∧ RdV w ⟨⟨k, bl, ng, ds, ex, tk, dy, na, ofs, tx, bs⟩, .slice a1 n1 m1, .slice a2 n2 m2, .slice a3 n3 m3⟩ (.mk ⟨k, bl, ng, ds, ex, tk, dy, na, ofs, tx, bs⟩ [] [])) :
    Calls Tryz.prog 4 #[.agg #[.int .i64 k, .bool bl, .bool ng, .string ds, .int .i64 ex, .int .i64 tk, .int .i64 dy, .int .i64 na, .int .i64 ofs, .string tx, .slice a1 n1 m1, .slice a2 n2 m2, .slice a3 n3 m3]] w fun e w' => e = .returned (.bool true) ∧ Below w.heap.size w w' := by
  have HE := Lib.hid hE
  have HC := Lib.hid hc
  have HS := Lib.hid hs
  have HSM := Lib.hid (fun w' => Small11 k bl ng ds ex tk dy na ofs tx a1 a2 a3 n1 m1 n2 m2 n3 m3 w')
  clear hE hc hs
  obtain ⟨q, hq⟩ : ∃ q, q = decide (n2 = 0 ∧ n3 = 0) := ⟨_, rfl⟩
  rw [← hq] at HSM
  have HQ := Lib.hid hq
  clear hq
  obtain ⟨T, hT⟩ : ∃ T, T = (decide ((k < 0 ∨ 6 ≤ k) ∨ 2000 < tx.size ∨ 2000 < n1 ∨ q = false) || c) := ⟨_, rfl⟩
  have HT := Lib.hid hT
  clear hT
  go_enter Tryz.func4, Tryz.ntmps4
  go_upto_region 1 with fail
  generalize hW : World.alloc w _ = w1
  obtain ⟨ha1, -, hz1, hb1⟩ := alloc_of hW
  have HB1 := Lib.hid hb1
  have HX := Lib.hid ha1
  clear hW hb1 ha1 hz1
  go_cut [39] (fun v wx => v = .bool T ∧ Below w1.heap.size w1 wx)
  case first =>
    obtain ⟨c0, c1, c2, c3, c4, c5, c6, c7, c8, c9, ca, cb, cc⟩ := row13 HX.out
    have fin : ((k < 0 ∨ 6 ≤ k) ∨ 2000 < tx.size ∨ 2000 < n1 ∨ q = false) → Value.bool true = Value.bool T := by
      intro h
      rw [HT.out, decide_eq_true h]
      rfl
    have FIN := Lib.hid fin
    clear fin
    by_cases hk0 : k < 0
    · have e1 : (k < 0) = True := eq_true hk0
      have HF := Lib.hid (FIN.out (.inl (.inl hk0)))
      clear hk0
      go_wp2_with fail
      go_meet
      exact ⟨HF.out, Below.refl _ _⟩
    have e1 : (k < 0) = False := eq_false hk0
    by_cases hk6 : 6 ≤ k
    · have e2 : (6 ≤ k) = True := eq_true hk6
      have HF := Lib.hid (FIN.out (.inl (.inr hk6)))
      clear hk0 hk6
      go_wp2_with fail
      go_meet
      exact ⟨HF.out, Below.refl _ _⟩
    have e2 : (6 ≤ k) = False := eq_false hk6
    by_cases h1 : 2000 < tx.size
    · have h1i : ((2000 : Int) < tx.size) = True := eq_true (by omega)
      have HF := Lib.hid (FIN.out (.inr (.inl h1)))
      clear hk0 hk6 h1
      go_wp2_with fail
      go_meet
      exact ⟨HF.out, Below.refl _ _⟩
    have h1i : ((2000 : Int) < tx.size) = False := eq_false (by omega)
    by_cases h2 : 2000 < n1
    · have h2i : ((2000 : Int) < n1) = True := eq_true (by omega)
      have HF := Lib.hid (FIN.out (.inr (.inr (.inl h2))))
      clear hk0 hk6 h1 h2
      go_wp2_with fail
      go_meet
      exact ⟨HF.out, Below.refl _ _⟩
    have h2i : ((2000 : Int) < n1) = False := eq_false (by omega)
    have HK : Hid (0 ≤ k ∧ k < 6 ∧ tx.size ≤ 2000 ∧ n1 ≤ 2000) := by unfold Hid; omega
    clear hk0 hk6 h1 h2
    go_wp2_with fail
    refine (HSM.out _).mono ?_
    rintro e w2 ⟨rfl, hb⟩
    have HB2 := Lib.hid hb
    have HX2 := Lib.hid (row13k HX.out hb)
    clear c0 c1 c2 c3 c4 c5 c6 c7 c8 c9 ca cb cc HSM hb HX
    cases q with
    | false =>
      have HF := Lib.hid (FIN.out (.inr (.inr (.inr rfl))))
      go_wp2_with fail
      go_meet
      exact ⟨HF.out, HB2.out⟩
    | true =>
    have HTC : Hid (T = c) := by
      unfold Hid
      rw [HT.out, decide_eq_false (by have := HK.out; rintro ((h | h) | h | h | h); omega; omega; omega; omega; cases h), Bool.false_or]
    have hqt := of_decide_eq_true HQ.out.symm
    have HCC := Lib.hid (HC.out HK.out.1 HK.out.2.1 hqt HK.out.2.2.1 HK.out.2.2.2)
    clear HC hqt FIN HT
    obtain ⟨c0, c1, c2, c3, c4, c5, c6, c7, c8, c9, ca, cb, cc⟩ := row13 HX2.out
    go_wp2_with fail
    refine (HCC.out _ (HB1.out.trans (HB2.out.mono HB1.out.size))).mono ?_
    rintro e w3 ⟨r, hr, rfl, hb⟩
    have HB3 := Lib.hid (HB2.out.trans (hb.mono HB2.out.size))
    clear hb HCC c0 c1 c2 c3 c4 c5 c6 c7 c8 c9 ca cb cc
    rw [← HTC.out] at hr
    cases T
    all_goals
      go_wp2_with fail
      go_meet
      exact ⟨rfl, HB3.out⟩
  case rest =>
  obtain ⟨rfl, hb2⟩ := hcut
  obtain ⟨w2, rfl⟩ : ∃ w2 : World, w2 = wc := ⟨_, rfl⟩
  have HB2 := Lib.hid (HB1.out.trans (hb2.mono HB1.out.size))
  have HX2 := Lib.hid (row13k HX.out hb2)
  clear hb2 HX HB1 HSM
  cases T with
  | true =>
    go_wp2_with (go_at_call 6; refine (awake21_any _ (HE.out.below HB2.out)).mono ?_; rintro e w3 ⟨rfl, hb3⟩)
    go_ret
    exact ⟨rfl, HB2.out.trans (hb3.mono HB2.out.size)⟩
  | false =>
  obtain ⟨hT1, hT2⟩ := Bool.or_eq_false_iff.1 HT.out.symm
  have hT := of_decide_eq_false hT1
  simp only [not_or] at hT
  obtain ⟨⟨g1, g2⟩, g3, g5, g4⟩ := hT
  have hqt : n2 = 0 ∧ n3 = 0 := of_decide_eq_true (HQ.out.symm.trans (by cases q; exact absurd rfl g4; rfl))
  obtain ⟨P, hI, hTl, hok, hrd⟩ := HS.out (by omega) (by omega) hqt (by omega) (by omega) hT2
  have HI := Lib.hid hI
  have HTL := Lib.hid hTl
  have HRD := Lib.hid hrd
  have HSA : Hid (∀ b1 w', Below w.heap.size w w' → RdB w' b1 bs → Calls Tryz.prog 12 #[.agg #[.int .i64 k, .bool bl, .bool ng, .string ds, .int .i64 ex, .int .i64 tk, .int .i64 dy, .int .i64 na, .int .i64 ofs, .string tx, .slice a1 n1 m1, .slice a2 n2 m2, .slice a3 n3 m3], .agg #[.int .i64 k, .bool bl, .bool ng, .string ds, .int .i64 ex, .int .i64 tk, .int .i64 dy, .int .i64 na, .int .i64 ofs, .string tx, b1, .slice none 0 0, .slice none 0 0]] w' fun e w2 => e = .returned (.bool true) ∧ Below w'.heap.size w' w2) := by
    intro b1 w' hb hb1
    have := RSame_any _ _ _ _ _ w' (Nat.le_refl _) (hrd.stays hb) (flat_rd hok hb1)
    rw [(eqV_iff _ _).2 rfl] at this
    exact this
  clear hI hTl hrd hok g1 g2 g3 g4 g5 hqt hT1 hT2 HT HQ HS HC
  obtain ⟨c0, c1, c2, c3, c4, c5, c6, c7, c8, c9, ca, cb, cc⟩ := row13 HX2.out
  go_wp2_with fail
  refine (HI.out _ HB2.out).mono ?_
  rintro e w3 ⟨t, hp, ⟨u, rfl, hu⟩, hb⟩
  obtain ⟨t1, t2, t3⟩ := HTL.out t hp
  rw [← hu] at t1 t2
  rw [L_len] at t1
  have HLN := Lib.hid (ln_one u t2 (by omega))
  have HSC := Lib.hid (t3 u hu)
  have HLI : Hid (∀ w', TabU w' → Calls Tryz.prog 11 #[.string u] w' (LinesPost w' ([⟨0, L u, [], [], 0⟩], 0, 0))) := by
    intro w' hT
    have := ILines_any u w' (by omega) hT
    rw [ln_one u t2 (by omega)] at this
    exact this
  have hq : ∀ w', (Op.equalIn 10000 47 (.agg #[.int .i64 0, .string u, .string ⟨#[]⟩, .string ⟨#[]⟩, .int .i64 0]) (.agg #[.int .i64 0, .string u, .string ⟨#[]⟩, .string ⟨#[]⟩, .int .i64 0])).run Tryz.prog w' = .ok true w' := fun w' => by rw [eqIn_line, decide_eq_true ⟨rfl, rfl, rfl, rfl, rfl⟩]
  have HEQ := Lib.hid hq
  have HB3 := Lib.hid (HB2.out.trans (hb.mono HB2.out.size))
  have HX3 := Lib.hid (row13k HX2.out hb)
  clear c0 c1 c2 c3 c4 c5 c6 c7 c8 c9 ca cb cc hp hu hb HI HX2 HB2 t1 t2 t3 hq HTL HLN
  go_wp2_with fail
  refine (HSC.out _ (HE.out.below HB3.out)).mono ?_
  rintro e w4 ⟨⟨b1, rfl, hr1⟩, hb⟩
  have HB4 := Lib.hid (HB3.out.trans (hb.mono HB3.out.size))
  have HX4 := Lib.hid (row13k HX3.out hb)
  have HR4 := Lib.hid hr1
  obtain ⟨a4, cap4, rfl, -⟩ := hr1
  clear hb HX3 HB3 HSC
  go_wp2_with fail
  generalize hW5 : World.alloc w4 _ = w5
  obtain ⟨ha5, -, hz5, hb5⟩ := alloc_of hW5
  have HB5 := Lib.hid (HB4.out.trans (hb5.mono HB4.out.size))
  have HX5 := Lib.hid (row13k HX4.out hb5)
  have HR5 := Lib.hid (HR4.out.below hb5)
  have HY5 : Hid (w5.heap[w4.heap.size]? = _) := ha5
  clear hW5 ha5 hz5 hb5 HX4 HB4 HR4
  refine (HLI.out _ (HE.out.below HB5.out).tab).mono ?_
  rintro e w6 ⟨v6, rfl, ⟨b6, hbb6, hown⟩, hb⟩
  try dsimp only at hown
  obtain ⟨g, gc, rfl, hg, hat⟩ := own_ln hown
  have HAT : Hid (∀ j, j < 5 → w6.cell? ⟨g, 0 + j, none⟩ = ([.int .i64 0, .string u, .string ⟨#[]⟩, .string ⟨#[]⟩, .int .i64 0] : List Value)[j]?) := hat
  have HG := Lib.hid hg
  have HB6 := Lib.hid (HB5.out.trans (hb.mono HB5.out.size))
  have HX6 := Lib.hid (row13k HX5.out hb)
  have HY6 := Lib.hid (row13k HY5.out hb)
  have HR6 := Lib.hid (HR5.out.below hb)
  clear hat hown hbb6 hb HX5 HY5 HR5 HB5 HLI hg
  obtain ⟨x0, x1, x2, x3, x4, x5, x6, x7, x8, x9, xa, xb, xc⟩ := row13 HX6.out
  obtain ⟨y0, y1, y2, y3, y4, y5, y6, y7, y8, y9, ya, yb, yc⟩ := row13 HY6.out
  go_wp2_with fail
  refine (HSA.out _ _ HB6.out HR6.out).mono ?_
  rintro e w7 ⟨rfl, hb⟩
  replace HAT : Hid (∀ j, j < 5 → w7.cell? ⟨g, 0 + j, none⟩ = ([.int .i64 0, .string u, .string ⟨#[]⟩, .string ⟨#[]⟩, .int .i64 0] : List Value)[j]?) := fun j hj => (hb.cell (p := ⟨g, 0 + j, none⟩) HG.out).trans (HAT.out j hj)
  have HB7 := Lib.hid (HB6.out.trans (hb.mono HB6.out.size))
  clear hb HSA HX6 HY6 HR6 HB6 HG x0 x1 x2 x3 x4 x5 x6 x7 x8 x9 xa xb xc y0 y1 y2 y3 y4 y5 y6 y7 y8 y9 ya yb yc
  have hq := HEQ.out
  go_wp2_with (first | (refine wpl_loadG rfl stLn rfl rfl (cs := [.int .i64 0, .string u, .string ⟨#[]⟩, .string ⟨#[]⟩, .int .i64 0]) rfl HAT.out ?_) | (go_at_call 6; refine (awake21_any _ (HE.out.below HB7.out)).mono ?_; rintro e w8 ⟨rfl, hb8⟩))
  go_ret
  exact ⟨rfl, HB7.out.trans (hb8.mono HB7.out.size)⟩
theorem ToldI_any (h : Hd) (bv : Value) (a2 a3 : Option Addr) (n2 m2 n3 m3 : Nat) (w : World) (hf : Flt w h bv a2 a3 n2 m2 n3 m3) (hE : EnvI w) :
    Calls Tryz.prog 4 #[aggV ⟨h, bv, .slice a2 n2 m2, .slice a3 n3 m3⟩] w fun e w' => e = .returned (.bool true) ∧ Below w.heap.size w w' := by
  obtain ⟨a1, n1, m1, rfl, hn, hr⟩ := hf.bts
  obtain ⟨c, hc⟩ : ∃ c, c = (decide (120 < h.ds.size) || decide (checkV (.mk h [] []) ≠ 0)) := ⟨_, rfl⟩
  refine ToldCore h.kind h.bool h.neg h.ds h.exp h.tk h.day h.nano h.off h.text h.bytes a1 a2 a3 n1 m1 n2 m2 n3 m3 w hE c ?_ ?_
  · intro hk0 hk6 hz ht hb w' hbw
    obtain ⟨rfl, rfl⟩ := hz
    by_cases hd : 120 < h.ds.size
    · have hct : c = true := by rw [hc, decide_eq_true hd]; rfl
      have key := Check_big h a1 a2 a3 m1 0 m2 0 m3 w' hd
      rw [hn] at key
      refine Calls.mono key ?_
      rintro e w2 ⟨r, hr0, rfl, hb2⟩
      exact ⟨r, by rw [hct, bne_iff_ne]; exact hr0, rfl, hb2⟩
    · have hct : c = decide (checkV (.mk h [] []) ≠ 0) := by rw [hc, decide_eq_false hd]; rfl
      refine Calls.mono (Check7_any (.mk h [] []) ⟨h, .slice a1 n1 m1, .slice a2 0 m2, .slice a3 0 m3⟩ w' (by rw [nodV_mk, nodL, nodF]; omega) ((hf.rd (by omega) ht (by omega)).stays hbw)) ?_
      rintro e w2 ⟨rfl, hb2⟩
      refine ⟨_, ?_, rfl, hb2⟩
      rw [hct, Bool.eq_iff_iff, bne_iff_ne, decide_eq_true_eq]
      omega
  · intro hk0 hk6 hz ht hb hcf
    obtain ⟨rfl, rfl⟩ := hz
    rw [hcf] at hc
    obtain ⟨hc1, hc2⟩ := Bool.or_eq_false_iff.1 hc.symm
    have hds := of_decide_eq_false hc1
    have hck : checkV (.mk h [] []) = 0 := Classical.byContradiction (of_decide_eq_false hc2)
    have hone := look_flat hck
    obtain ⟨hown, hdc, htm⟩ := oneE_flat hone
    have hval : validL (L h.text) = true := by
      unfold oneE at hone
      rw [if_neg (by show ¬ ownB h 0 0 = false; rw [hown]; decide)] at hone
      split at hone
      · cases hone
      split at hone
      · cases hone
      · rename_i hv
        simpa using hv
    have hrd := hf.rd (by omega) ht (by omega)
    have hok : HdOk h := by
      cases hrd with
      | mk _ _ _ _ _ _ _ _ ok => exact ok
    have hrb := hr hb
    have hfin : ∀ (P : List UInt8 → Prop), OneOf 8 #[.agg #[.int .i64 h.kind, .bool h.bool, .bool h.neg, .string h.ds, .int .i64 h.exp, .int .i64 h.tk, .int .i64 h.day, .int .i64 h.nano, .int .i64 h.off, .string h.text, .slice a1 n1 m1, .slice a2 0 m2, .slice a3 0 m3]] P 0 w → (∀ t, P t → Tells h t) → ∃ P : List UInt8 → Prop,
      OneOf 8 #[.agg #[.int .i64 h.kind, .bool h.bool, .bool h.neg, .string h.ds, .int .i64 h.exp, .int .i64 h.tk, .int .i64 h.day, .int .i64 h.nano, .int .i64 h.off, .string h.text, .slice a1 n1 m1, .slice a2 0 m2, .slice a3 0 m3]] P 0 w ∧
      (∀ t, P t → Tells h t) ∧ HdOk h ∧ RdV w ⟨h, .slice a1 n1 m1, .slice a2 0 m2, .slice a3 0 m3⟩ (.mk h [] []) := fun P h1 h2 => ⟨P, h1, h2, hok, hrd⟩
    show ∃ P : List UInt8 → Prop, _ ∧ (∀ t, P t → Tells h t) ∧ HdOk h ∧ RdV w ⟨h, .slice a1 n1 m1, .slice a2 0 m2, .slice a3 0 m3⟩ (.mk h [] [])
    rcases (by omega : h.kind = 0 ∨ h.kind = 1 ∨ h.kind = 2 ∨ h.kind = 3 ∨ h.kind = 4 ∨ h.kind = 5) with hk | hk | hk | hk | hk | hk
    · refine hfin (· = [110, 117, 108, 108]) (one_of fun w' _ => ?_) (fun t ht => by rw [ht]; exact told0 h hown hk)
      rw [hk]
      exact IShow0 _ _ _ _ _ _ _ _ _ _ _ _ _ _ _ _ _ _ _
    · refine hfin (· = if h.bool then [116, 114, 117, 101] else [102, 97, 108, 115, 101]) (one_of fun w' _ => ?_) (fun t ht => by rw [ht]; exact told1 h hown hk)
      rw [hk]
      exact IShow1 _ _ _ _ _ _ _ _ _ _ _ _ _ _ _ _ _ _ _
    · refine hfin (· = decL h.neg (L h.ds) h.exp) (one_of fun w' _ => ?_) (fun t ht => by rw [ht]; exact told2 h hown hk hdc)
      rw [hk]
      exact IShow2 _ _ _ _ _ _ _ _ _ _ _ _ _ _ _ _ _ _ _ hdc
    · refine hfin (fun t => ∃ y m d, DateIs h.day.toNat y m d ∧ t = tmL h.tk y m d h.nano.toNat h.off) (fun w' _ => ?_) (fun t ht => by obtain ⟨y, m, d, hd, rfl⟩ := ht; exact told3 h hown hk (htm hk) y m d hd)
      rw [hk]
      refine (IShow3 _ _ _ _ _ _ _ _ _ _ _ _ _ _ _ _ _ _ _ (htm hk)).mono ?_
      rintro e w2 ⟨y, m, d, hd, hp⟩
      exact ⟨_, ⟨y, m, d, hd, rfl⟩, hp⟩
    · obtain ⟨ht4, he4⟩ := told4 h hown hk hval ht
      refine hfin (· = if plS h.text then L h.text else (quoR (L h.text)).1) (one_of fun w' _ => ?_) (fun t ht => by rw [ht]; exact ht4)
      rw [hk, ← he4]
      exact IShow4 _ _ _ _ _ _ _ _ _ _ _ _ _ _ _ _ _ _ _ ht
    · refine hfin (· = if h.bytes = [] then [33, 98] else [33, 98, 32] ++ encP h.bytes) (one_of fun w' hbw => ?_) (fun t ht => by rw [ht]; exact told5 h hown hk (by omega))
      rw [hk]
      exact IShow5 _ _ _ _ _ _ _ _ _ _ _ _ _ _ _ _ _ _ _ h.bytes (by omega) hn.symm (hrb.below hbw)
end Go.Proofs.YtlnpfpjncnkekaaGreatDoor
