/- The law IndentlexShows walked. Conditions: the tables of unicode/utf8 as they are, a value of internal/bytealg.MaxLen. -/
import Derived.Test.YtlnpfpjncnkekaaGreatDoorZs27
import Derived.Test.YtlnpfpjncnkekaaGreatDoorZs26
import Derived.Test.YtlnpfpjncnkekaaGreatDoorZs17
import Derived.Test.YtlnpfpjncnkekaaGreatDoorZs30
import Derived.Test.YtlnpfpjncnkekaaGreatDoorZs33
namespace Go.Proofs.YtlnpfpjncnkekaaGreatDoor
open Go.RowKit
set_option maxHeartbeats 4000000
set_option maxRecDepth 100000

def Ret (v : Value) (w : World) (e : Ending) (w' : World) : Prop := e = .returned v ∧ Below w.heap.size w w'
theorem room11 (k : Int) (bl ng : Bool) (ds : ByteArray) (ex tk dy na ofs : Int) (tx : ByteArray) (a1 a2 a3 : Option Addr) (n1 m1 n2 m2 n3 m3 : Nat) (w : World) :
    Calls Tryz.prog 13 #[.agg #[.int .i64 k, .bool bl, .bool ng, .string ds, .int .i64 ex, .int .i64 tk, .int .i64 dy, .int .i64 na, .int .i64 ofs, .string tx, .slice a1 n1 m1, .slice a2 n2 m2, .slice a3 n3 m3], .int .i64 1, .int .i64 1] w (Ret (.int .i64 (if n2 = 0 ∧ n3 = 0 then 0 else -1)) w) := by
  have hb : ∀ x, Below w.heap.size w (w.alloc x) := fun x => (Below.refl _ _).alloc (Nat.le_refl _) _
  have HB := Lib.hid hb
  clear hb
  by_cases h2 : n2 = 0
  case neg =>
    rw [if_neg (fun h => h2 h.1)]
    have h2i : (0 < (n2 : Int)) = True := eq_true (by omega)
    have h2n : (0 < n2) = True := eq_true (by omega)
    clear h2
    go_enter Tryz.func13, Tryz.ntmps13
    go_wp2_with fail
    go_ret
    exact ⟨rfl, HB.out _⟩
  subst h2
  by_cases h3 : n3 = 0
  case neg =>
    rw [if_neg (fun h => h3 h.2)]
    have h2i : (0 < (n3 : Int)) = True := eq_true (by omega)
    have h2n : (0 < n3) = True := eq_true (by omega)
    clear h3
    go_enter Tryz.func13, Tryz.ntmps13
    go_wp2_with fail
    go_ret
    exact ⟨rfl, HB.out _⟩
  subst h3
  rw [if_pos ⟨rfl, rfl⟩]
  go_enter Tryz.func13, Tryz.ntmps13
  go_wp2_with fail
  refine wp_loop_rounds 1 ?_
  rw [rounds_succ]
  go_wp2_with fail
  refine wp_loop_rounds 1 ?_
  rw [rounds_succ]
  go_wp2_with fail
  go_ret
  exact ⟨rfl, HB.out _⟩
theorem Small11 (k : Int) (bl ng : Bool) (ds : ByteArray) (ex tk dy na ofs : Int) (tx : ByteArray) (a1 a2 a3 : Option Addr) (n1 m1 n2 m2 n3 m3 : Nat) (w : World) :
    Calls Tryz.prog 5 #[.agg #[.int .i64 k, .bool bl, .bool ng, .string ds, .int .i64 ex, .int .i64 tk, .int .i64 dy, .int .i64 na, .int .i64 ofs, .string tx, .slice a1 n1 m1, .slice a2 n2 m2, .slice a3 n3 m3], .int .i64 1, .int .i64 1] w (Ret (.bool (decide (n2 = 0 ∧ n3 = 0))) w) := by
  have HR := Lib.hid (fun w' => room11 k bl ng ds ex tk dy na ofs tx a1 a2 a3 n1 m1 n2 m2 n3 m3 w')
  obtain ⟨q, hq⟩ : ∃ q, q = decide (n2 = 0 ∧ n3 = 0) := ⟨_, rfl⟩
  have HRQ : Hid (∀ w', Calls Tryz.prog 13 #[.agg #[.int .i64 k, .bool bl, .bool ng, .string ds, .int .i64 ex, .int .i64 tk, .int .i64 dy, .int .i64 na, .int .i64 ofs, .string tx, .slice a1 n1 m1, .slice a2 n2 m2, .slice a3 n3 m3], .int .i64 1, .int .i64 1] w' (Ret (.int .i64 (if q = true then 0 else -1)) w')) := by
    intro w'
    have := HR.out w'
    rw [hq]
    simpa only [decide_eq_true_eq] using this
  rw [← hq]
  clear HR hq
  cases q
  all_goals
    go_enter Tryz.func5, Tryz.ntmps5
    go_wp2_with fail
    go_upto_region 1 with fail
    generalize hW : World.alloc w _ = w1
    obtain ⟨ha1, -, hz1, hb1⟩ := alloc_of hW
    have HB1 := Lib.hid hb1
    obtain ⟨c0, c1, c2, c3, c4, c5, c6, c7, c8, c9, ca, cb, cc⟩ := row13 ha1
    clear hW hb1 ha1 hz1
    go_wp2_with fail
    refine (HRQ.out _).mono ?_
    rintro e w2 ⟨rfl, hb⟩
    have HB2 := Lib.hid (HB1.out.trans (hb.mono HB1.out.size))
    clear hb HRQ
    go_wp2_with fail
    go_ret
    exact ⟨rfl, HB2.out⟩
def NotZ (w : World) (e : Ending) (w' : World) : Prop := ∃ r : Int, r ≠ 0 ∧ e = .returned (.int .i64 r) ∧ Below w.heap.size w w'
theorem Valid2_big (neg : Bool) (s : ByteArray) (e : Int) (w : World) (hs : 120 < s.size) :
    Calls Tryz.prog 87 #[.agg #[.bool neg, .string s, .int .i64 e]] w (Ret (.bool false) w) := by
  have hq : s.toList.isEmpty = false := by
    rw [Bool.eq_false_iff]
    intro h
    have := isEh.1 h
    have h2 := L_len s
    rw [this] at h2
    simp at h2
    omega
  have h1i : ¬ (s.size : Int) ≤ 120 := by omega
  have hb : ∀ x, Below w.heap.size w (w.alloc x) := fun x => (Below.refl _ _).alloc (Nat.le_refl _) _
  have HB := Lib.hid hb
  clear hb hs
  go_enter Tryz.func87, Tryz.ntmps87
  go_wp2_with fail
  go_ret
  exact ⟨rfl, HB.out _⟩
theorem one_big (h : Hd) (a1 a2 a3 : Option Addr) (m1 n2 m2 n3 m3 : Nat) (w : World) (hd : 120 < h.ds.size) :
    Calls Tryz.prog 42 #[aggV ⟨h, .slice a1 h.bytes.length m1, .slice a2 n2 m2, .slice a3 n3 m3⟩] w (NotZ w) := by
  have HOWN := Lib.hid (fun w => own7_any h (.slice a1 h.bytes.length m1) (.slice a2 n2 m2) (.slice a3 n3 m3) h.bytes.length n2 n3 m1 m2 m3 a1 a2 a3 w rfl rfl rfl rfl)
  obtain ⟨k, bl, ng, ds, ex, tk, dy, na, ofs, tx, bs⟩ := h
  have HV2 := Lib.hid (fun w => Valid2_big ng ds ex w hd)
  clear hd
  generalize ownB ⟨k, bl, ng, ds, ex, tk, dy, na, ofs, tx, bs⟩ n2 n3 = q at *
  simp only at HOWN ⊢
  generalize bs.length = n1 at *
  have HOWN2 : Hid (∀ w', Calls Tryz.prog 86 #[.agg #[.int .i64 k, .bool bl, .bool ng, .string ds, .int .i64 ex, .int .i64 tk, .int .i64 dy, .int .i64 na, .int .i64 ofs, .string tx, .slice a1 n1 m1, .slice a2 n2 m2, .slice a3 n3 m3]] w' fun e w2 => e = .returned (.bool q) ∧ Below w'.heap.size w' w2) := HOWN.out
  clear HOWN
  show Calls Tryz.prog 42 #[.agg #[.int .i64 k, .bool bl, .bool ng, .string ds, .int .i64 ex, .int .i64 tk, .int .i64 dy, .int .i64 na, .int .i64 ofs, .string tx, .slice a1 n1 m1, .slice a2 n2 m2, .slice a3 n3 m3]] w (NotZ w)
  go_enter Tryz.func42, Tryz.ntmps42
  go_upto_region 1 with fail
  generalize hW : World.alloc w _ = w1
  obtain ⟨ha1, -, hz1, hb1⟩ := alloc_of hW
  have HB1 := Lib.hid hb1
  obtain ⟨c0, c1, c2, c3, c4, c5, c6, c7, c8, c9, ca, cb, cc⟩ := row13 ha1
  have HX := Lib.hid ha1
  have HZ : Hid (w.heap.size < w1.heap.size) := by unfold Hid; omega
  clear hW hb1 ha1 hz1
  go_wp2_with fail
  refine (HOWN2.out _).mono ?_
  rintro e w2 ⟨rfl, hb⟩
  have HB2 := Lib.hid (HB1.out.trans (hb.mono HB1.out.size))
  clear c0 c1 c2 c3 c4 c5 c6 c7 c8 c9 ca cb cc HOWN2
  obtain ⟨c0, c1, c2, c3, c4, c5, c6, c7, c8, c9, ca, cb, cc⟩ := row13 ((hb.block _ HZ.out).trans HX.out)
  clear hb
  cases q with
  | false =>
    go_wp2_with fail
    go_ret
    exact ⟨6, by decide, rfl, HB2.out⟩
  | true =>
  go_wp2_with fail
  refine (HV2.out _).mono ?_
  rintro e w3 ⟨rfl, hb⟩
  have HB3 := Lib.hid (HB2.out.trans (hb.mono HB2.out.size))
  clear hb HV2
  go_wp2_with fail
  go_ret
  exact ⟨2, by decide, rfl, HB3.out⟩
theorem Check_big (h : Hd) (a1 a2 a3 : Option Addr) (m1 n2 m2 n3 m3 : Nat) (w : World) (hd : 120 < h.ds.size) :
    Calls Tryz.prog 7 #[aggV ⟨h, .slice a1 h.bytes.length m1, .slice a2 n2 m2, .slice a3 n3 m3⟩] w (NotZ w) := by
  have HO := Lib.hid (fun w' => one_big h a1 a2 a3 m1 n2 m2 n3 m3 w' hd)
  obtain ⟨k, bl, ng, ds, ex, tk, dy, na, ofs, tx, bs⟩ := h
  clear hd
  simp only at HO ⊢
  generalize bs.length = n1 at *
  have HO2 : Hid (∀ w', Calls Tryz.prog 42 #[.agg #[.int .i64 k, .bool bl, .bool ng, .string ds, .int .i64 ex, .int .i64 tk, .int .i64 dy, .int .i64 na, .int .i64 ofs, .string tx, .slice a1 n1 m1, .slice a2 n2 m2, .slice a3 n3 m3]] w' (NotZ w')) := HO.out
  clear HO
  have HL : Hid (∀ w', Calls Tryz.prog 15 #[.agg #[.int .i64 k, .bool bl, .bool ng, .string ds, .int .i64 ex, .int .i64 tk, .int .i64 dy, .int .i64 na, .int .i64 ofs, .string tx, .slice a1 n1 m1, .slice a2 n2 m2, .slice a3 n3 m3], .int .i64 1, .int .i64 0] w' fun e w2 => ∃ r : Int, r ≠ 0 ∧ e = .returned (.tuple #[.int .i64 0, .int .i64 r]) ∧ Below w'.heap.size w' w2) := by
    intro w
    go_enter Tryz.func15, Tryz.ntmps15
    go_upto_region 1 with fail
    generalize hW : World.alloc w _ = w1
    obtain ⟨ha1, -, hz1, hb1⟩ := alloc_of hW
    have HB1 := Lib.hid hb1
    obtain ⟨c0, c1, c2, c3, c4, c5, c6, c7, c8, c9, ca, cb, cc⟩ := row13 ha1
    clear hW hb1 ha1 hz1
    go_wp2_with fail
    refine (HO2.out _).mono ?_
    rintro e w2 ⟨r, hr, rfl, hb⟩
    have HB2 := Lib.hid (HB1.out.trans (hb.mono HB1.out.size))
    have hr0 : (r != 0) = true := by rw [bne_iff_ne]; exact hr
    have HR := Lib.hid hr
    clear hb HO2 hr
    go_wp2_with fail
    go_ret2
    exact ⟨r, HR.out, rfl, HB2.out⟩
  clear HO2
  show Calls Tryz.prog 7 #[.agg #[.int .i64 k, .bool bl, .bool ng, .string ds, .int .i64 ex, .int .i64 tk, .int .i64 dy, .int .i64 na, .int .i64 ofs, .string tx, .slice a1 n1 m1, .slice a2 n2 m2, .slice a3 n3 m3]] w (NotZ w)
  go_enter Tryz.func7, Tryz.ntmps7
  go_upto_region 1 with fail
  generalize hW : World.alloc w _ = w1
  obtain ⟨ha1, -, hz1, hb1⟩ := alloc_of hW
  have HB1 := Lib.hid hb1
  obtain ⟨c0, c1, c2, c3, c4, c5, c6, c7, c8, c9, ca, cb, cc⟩ := row13 ha1
  clear hW hb1 ha1 hz1
  go_wp2_with fail
  refine (HL.out _).mono ?_
  rintro e w2 ⟨r, hr, rfl, hb⟩
  have HB2 := Lib.hid (HB1.out.trans (hb.mono HB1.out.size))
  have HR := Lib.hid hr
  clear hb HL hr
  go_wp2_with fail
  go_ret
  exact ⟨r, HR.out, rfl, HB2.out⟩
end Go.Proofs.YtlnpfpjncnkekaaGreatDoor

namespace Go.Proofs.YtlnpfpjncnkekaaGreatDoor
open Go.RowKit
set_option maxHeartbeats 4000000
set_option maxRecDepth 100000

theorem row13k {w w' : World} {g : Nat} {o : Obj} (h : w.heap[g]? = some o) (hb : Below w.heap.size w w') : w'.heap[g]? = some o := by
  have hz : g < w.heap.size := by
    rcases Nat.lt_or_ge g w.heap.size with h' | h'
    · exact h'
    · rw [Array.getElem?_eq_none h'] at h
      cases h
  exact (hb.block _ hz).trans h
def OneOf (f : FuncId) (av : Array Value) (P : List UInt8 → Prop) (n : Int) (w : World) : Prop := ∀ w', Below w.heap.size w w' → Calls Tryz.prog f av w' fun e w2 => ∃ t, P t ∧ ShP t n w' e w2
theorem ShowsCore (k : Int) (bl ng : Bool) (ds : ByteArray) (ex tk dy na ofs : Int) (tx : ByteArray) (a1 a2 a3 : Option Addr) (n1 m1 n2 m2 n3 m3 : Nat) (w : World) (hE : EnvI w) (c : Bool)
    (hc : 0 ≤ k → k < 6 → n2 = 0 ∧ n3 = 0 → tx.size ≤ 2000 → n1 ≤ 2000 → ∀ w', Below w.heap.size w w' → Calls Tryz.prog 7 #[.agg #[.int .i64 k, .bool bl, .bool ng, .string ds, .int .i64 ex, .int .i64 tk, .int .i64 dy, .int .i64 na, .int .i64 ofs, .string tx, .slice a1 n1 m1, .slice a2 n2 m2, .slice a3 n3 m3]] w' fun e w2 => ∃ r : Int, (r != 0) = c ∧ e = .returned (.int .i64 r) ∧ Below w'.heap.size w' w2)
    (hs : tx.size ≤ 2000 → n1 ≤ 2000 → ((k < 0 ∨ 6 ≤ k) ∨ c = false) → ∃ (P : List UInt8 → Prop) (n : Int), (∀ t t', P t → P t' → t = t') ∧
      OneOf 8 #[.agg #[.int .i64 k, .bool bl, .bool ng, .string ds, .int .i64 ex, .int .i64 tk, .int .i64 dy, .int .i64 na, .int .i64 ofs, .string tx, .slice a1 n1 m1, .slice a2 n2 m2, .slice a3 n3 m3]] P n w ∧
      OneOf 9 #[.agg #[.int .i64 k, .bool bl, .bool ng, .string ds, .int .i64 ex, .int .i64 tk, .int .i64 dy, .int .i64 na, .int .i64 ofs, .string tx, .slice a1 n1 m1, .slice a2 n2 m2, .slice a3 n3 m3]] P n w) :
    Calls Tryz.prog 3 #[.agg #[.int .i64 k, .bool bl, .bool ng, .string ds, .int .i64 ex, .int .i64 tk, .int .i64 dy, .int .i64 na, .int .i64 ofs, .string tx, .slice a1 n1 m1, .slice a2 n2 m2, .slice a3 n3 m3]] w fun e w' => e = .returned (.bool true) ∧ Below w.heap.size w w' := by
  have HE := Lib.hid hE
  have HC := Lib.hid hc
  have HS := Lib.hid hs
  have HSM := Lib.hid (fun w' => Small11 k bl ng ds ex tk dy na ofs tx a1 a2 a3 n1 m1 n2 m2 n3 m3 w')
  clear hE hc hs
  obtain ⟨q, hq⟩ : ∃ q, q = decide (n2 = 0 ∧ n3 = 0) := ⟨_, rfl⟩
  rw [← hq] at HSM
  have HQ := Lib.hid hq
  clear hq
  obtain ⟨T, hT⟩ : ∃ T, T = decide ((q = false ∧ 0 ≤ k ∧ k < 6) ∨ 2000 < tx.size ∨ 2000 < n1) := ⟨_, rfl⟩
  have HT := Lib.hid hT
  clear hT
  go_enter Tryz.func3, Tryz.ntmps3
  go_upto_region 1 with fail
  generalize hW : World.alloc w _ = w1
  obtain ⟨ha1, -, hz1, hb1⟩ := alloc_of hW
  have HB1 := Lib.hid hb1
  have HX := Lib.hid ha1
  clear hW hb1 ha1 hz1
  go_cut [31] (fun v wx => v = .bool T ∧ Below w1.heap.size w1 wx)
  case first =>
    obtain ⟨c0, c1, c2, c3, c4, c5, c6, c7, c8, c9, ca, cb, cc⟩ := row13 HX.out
    go_wp2_with fail
    refine (HSM.out _).mono ?_
    rintro e w2 ⟨rfl, hb⟩
    have HB2 := Lib.hid hb
    have HX2 := Lib.hid (row13k HX.out hb)
    clear c0 c1 c2 c3 c4 c5 c6 c7 c8 c9 ca cb cc HSM hb HX HB1
    obtain ⟨c0, c1, c2, c3, c4, c5, c6, c7, c8, c9, ca, cb, cc⟩ := row13 HX2.out
    clear c1 c2 c3 c4 c5 c6 c7 c8 cb cc
    have fin : ∀ b : Bool, (b = true ↔ ((q = false ∧ 0 ≤ k ∧ k < 6) ∨ 2000 < tx.size ∨ 2000 < n1)) → Value.bool b = Value.bool T := by
      intro b h
      rw [HT.out]
      congr 1
      rw [Bool.eq_iff_iff, h, decide_eq_true_eq]
    have FIN := Lib.hid fin
    clear fin
    cases q with
    | true =>
      by_cases h1 : 2000 < tx.size
      · have h1i : ((2000 : Int) < tx.size) = True := eq_true (by omega)
        go_wp2_with fail
        go_meet
        exact ⟨FIN.out true (by simp [h1]), HB2.out⟩
      by_cases h2 : 2000 < n1
      · have h1i : ((2000 : Int) < tx.size) = False := eq_false (by omega)
        have h2i : ((2000 : Int) < n1) = True := eq_true (by omega)
        go_wp2_with fail
        go_meet
        exact ⟨FIN.out true (by simp [h2]), HB2.out⟩
      have h1i : ((2000 : Int) < tx.size) = False := eq_false (by omega)
      have h2i : ((2000 : Int) < n1) = False := eq_false (by omega)
      go_wp2_with fail
      go_meet
      exact ⟨FIN.out false (by simp; omega), HB2.out⟩
    | false =>
      by_cases hk : 0 ≤ k ∧ k < 6
      · have hk0 : (0 ≤ k) = True := eq_true hk.1
        have hk6 : (k < 6) = True := eq_true hk.2
        have HK := Lib.hid hk
        clear hk
        go_wp2_with fail
        go_meet
        exact ⟨FIN.out true (by simp [HK.out.1, HK.out.2]), HB2.out⟩
      have HK := Lib.hid hk
      by_cases h1 : 2000 < tx.size
      · have h1i : ((2000 : Int) < tx.size) = True := eq_true (by omega)
        by_cases hk0' : 0 ≤ k
        · have hk0 : (0 ≤ k) = True := eq_true hk0'
          have hk6 : (k < 6) = False := eq_false (by omega)
          clear hk hk0'
          go_wp2_with fail
          go_meet
          exact ⟨FIN.out true (by simp [h1]), HB2.out⟩
        · have hk0 : (0 ≤ k) = False := eq_false hk0'
          clear hk hk0'
          go_wp2_with fail
          go_meet
          exact ⟨FIN.out true (by simp [h1]), HB2.out⟩
      have h1i : ((2000 : Int) < tx.size) = False := eq_false (by omega)
      by_cases h2 : 2000 < n1
      · have h2i : ((2000 : Int) < n1) = True := eq_true (by omega)
        by_cases hk0' : 0 ≤ k
        · have hk0 : (0 ≤ k) = True := eq_true hk0'
          have hk6 : (k < 6) = False := eq_false (by omega)
          clear hk hk0'
          go_wp2_with fail
          go_meet
          exact ⟨FIN.out true (by simp [h2]), HB2.out⟩
        · have hk0 : (0 ≤ k) = False := eq_false hk0'
          clear hk hk0'
          go_wp2_with fail
          go_meet
          exact ⟨FIN.out true (by simp [h2]), HB2.out⟩
      have h2i : ((2000 : Int) < n1) = False := eq_false (by omega)
      have H1 := Lib.hid h1
      have H2 := Lib.hid h2
      by_cases hk0' : 0 ≤ k
      · have hk0 : (0 ≤ k) = True := eq_true hk0'
        have hk6 : (k < 6) = False := eq_false (by omega)
        clear hk hk0' h1 h2
        go_wp2_with fail
        go_meet
        exact ⟨FIN.out false (by have := HK.out; have := H1.out; have := H2.out; simp; omega), HB2.out⟩
      · have hk0 : (0 ≤ k) = False := eq_false hk0'
        clear hk hk0' h1 h2
        go_wp2_with fail
        go_meet
        exact ⟨FIN.out false (by have := HK.out; have := H1.out; have := H2.out; simp; omega), HB2.out⟩
  case rest =>
  obtain ⟨rfl, hb2⟩ := hcut
  obtain ⟨w2, rfl⟩ : ∃ w2 : World, w2 = wc := ⟨_, rfl⟩
  have HB2 := Lib.hid (HB1.out.trans (hb2.mono HB1.out.size))
  have HX2 := Lib.hid (row13k HX.out hb2)
  clear hb2 HX HB1 HSM
  cases T with
  | true =>
    go_wp2_with (go_at_call 6; refine (awake21_any _ (HE.out.below HB2.out)).mono ?_; rintro e w3 ⟨rfl, hb3⟩)
    go_ret
    exact ⟨rfl, HB2.out.trans (hb3.mono HB2.out.size)⟩
  | false =>
  have hT := of_decide_eq_false HT.out.symm
  have HSZ : Hid (tx.size ≤ 2000 ∧ n1 ≤ 2000) := by unfold Hid; omega
  have hqk : (0 ≤ k ∧ k < 6) → q = true := by
    intro h
    cases q
    · exact absurd (.inl ⟨rfl, h⟩) hT
    · rfl
  have HQK := Lib.hid hqk
  clear hT hqk HT
  go_upto_region 3 with fail
  obtain ⟨T, hT⟩ : ∃ T, T = (decide (0 ≤ k ∧ k < 6) && c) := ⟨_, rfl⟩
  have HT := Lib.hid hT
  clear hT
  go_cut [45] (fun v wx => v = .bool T ∧ Below w2.heap.size w2 wx)
  case first =>
    obtain ⟨c0, c1, c2, c3, c4, c5, c6, c7, c8, c9, ca, cb, cc⟩ := row13 HX2.out
    by_cases hk : 0 ≤ k ∧ k < 6
    · have hk0 : (0 ≤ k) = True := eq_true hk.1
      have hk6 : (k < 6) = True := eq_true hk.2
      have hqt := of_decide_eq_true (HQ.out.symm.trans (HQK.out hk))
      have HCC := Lib.hid (HC.out hk.1 hk.2 hqt HSZ.out.1 HSZ.out.2)
      have HTT : Hid (T = c) := by unfold Hid; rw [HT.out, decide_eq_true hk, Bool.true_and]
      clear hk HC hqt
      go_wp2_with fail
      refine (HCC.out _ HB2.out).mono ?_
      rintro e w3 ⟨r, hr, rfl, hb⟩
      have HB3 := Lib.hid hb
      clear hb HCC
      rw [← HTT.out] at hr
      cases T
      all_goals
        go_wp2_with fail
        go_meet
        exact ⟨rfl, HB3.out⟩
    · have HTF : Hid (T = false) := by unfold Hid; rw [HT.out, decide_eq_false hk, Bool.false_and]
      by_cases hk0' : 0 ≤ k
      · have hk0 : (0 ≤ k) = True := eq_true hk0'
        have hk6 : (k < 6) = False := eq_false (by omega)
        clear hk hk0'
        go_wp2_with fail
        go_meet
        exact ⟨by rw [HTF.out], Below.refl _ _⟩
      · have hk0 : (0 ≤ k) = False := eq_false hk0'
        clear hk hk0'
        go_wp2_with fail
        go_meet
        exact ⟨by rw [HTF.out], Below.refl _ _⟩
  case rest =>
  obtain ⟨rfl, hb3⟩ := hcut
  obtain ⟨w3, rfl⟩ : ∃ w3 : World, w3 = wc := ⟨_, rfl⟩
  have HB3 := Lib.hid (HB2.out.trans (hb3.mono HB2.out.size))
  have HX3 := Lib.hid (row13k HX2.out hb3)
  clear hb3 HX2 HB2
  cases T with
  | true =>
    go_wp2_with (go_at_call 6; refine (awake21_any _ (HE.out.below HB3.out)).mono ?_; rintro e w4 ⟨rfl, hb4⟩)
    go_ret
    exact ⟨rfl, HB3.out.trans (hb4.mono HB3.out.size)⟩
  | false =>
  obtain ⟨P, n, huq, hI, hR⟩ := HS.out HSZ.out.1 HSZ.out.2 (by
    have h := HT.out
    rcases Bool.and_eq_false_iff.1 h.symm with h | h
    · have := of_decide_eq_false h
      exact .inl (by omega)
    · exact .inr h)
  have HU := Lib.hid huq
  have HI := Lib.hid hI
  have HR := Lib.hid hR
  clear hI hR huq HS HC HT HQ HQK
  obtain ⟨c0, c1, c2, c3, c4, c5, c6, c7, c8, c9, ca, cb, cc⟩ := row13 HX3.out
  go_wp2_with fail
  refine (HI.out _ HB3.out).mono ?_
  rintro e w4 ⟨t, hp, ⟨u, rfl, hu⟩, hb⟩
  have HP := Lib.hid hp
  have HUT := Lib.hid hu
  have HB4 := Lib.hid (HB3.out.trans (hb.mono HB3.out.size))
  have HX4 := Lib.hid (row13k HX3.out hb)
  clear c0 c1 c2 c3 c4 c5 c6 c7 c8 c9 ca cb cc hp hu hb HI HX3 HB3
  obtain ⟨c0, c1, c2, c3, c4, c5, c6, c7, c8, c9, ca, cb, cc⟩ := row13 HX4.out
  go_wp2_with fail
  refine (HR.out _ HB4.out).mono ?_
  rintro e w5 ⟨t2, hp, ⟨u2, rfl, hu⟩, hb⟩
  have HB5 := Lib.hid (HB4.out.trans (hb.mono HB4.out.size))
  obtain rfl : u2 = u := L_inj (by rw [hu, HUT.out]; exact HU.out _ _ hp HP.out)
  clear c0 c1 c2 c3 c4 c5 c6 c7 c8 c9 ca cb cc hp hu hb HR HX4 HB4 HU HP HUT
  have e1 : (n == n) = true := beq_self_eq_true n
  go_wp2_with (go_at_call 6; refine (awake21_any _ (HE.out.below HB5.out)).mono ?_; rintro e w6 ⟨rfl, hb6⟩)
  go_ret
  exact ⟨rfl, HB5.out.trans (hb6.mono HB5.out.size)⟩
theorem look_flat {h : Hd} (h0 : checkV (.mk h [] []) = 0) : oneE h 0 [] = 0 := by
  unfold checkV at h0
  rw [lookV_mk, if_neg (by decide), if_neg (by decide)] at h0
  split at h0
  · exact h0
  · rename_i hh
    exact Classical.byContradiction hh
theorem oneE_flat {h : Hd} (h0 : oneE h 0 [] = 0) : ownB h 0 0 = true ∧ decB h.neg (L h.ds) h.exp = true ∧ (h.kind = 3 → timeB h.tk h.day h.nano h.off = true) := by
  unfold oneE at h0
  split at h0
  · cases h0
  split at h0
  · cases h0
  · rename_i h1 h2
    refine ⟨by cases ho : ownB h 0 0; exact absurd ho h1; rfl, ?_, fun hk => ?_⟩
    · cases hd : decB h.neg (L h.ds) h.exp
      · exact absurd (.inl hd) h2
      · rfl
    · cases hd : timeB h.tk h.day h.nano h.off
      · exact absurd (.inr ⟨hk, hd⟩) h2
      · rfl
theorem one_of {f : FuncId} {av : Array Value} {t : List UInt8} {n : Int} {w : World} (h : ∀ w', Below w.heap.size w w' → Calls Tryz.prog f av w' (ShP t n w')) : OneOf f av (· = t) n w :=
  fun w' hb => (h w' hb).mono fun e w2 hp => ⟨t, rfl, hp⟩
theorem eq_one {t : List UInt8} : ∀ a b : List UInt8, a = t → b = t → a = b := fun _ _ h h' => h.trans h'.symm
theorem ShowsI_any (h : Hd) (bv : Value) (a2 a3 : Option Addr) (n2 m2 n3 m3 : Nat) (w : World) (hf : Flt w h bv a2 a3 n2 m2 n3 m3) (hE : EnvI w) :
    Calls Tryz.prog 3 #[aggV ⟨h, bv, .slice a2 n2 m2, .slice a3 n3 m3⟩] w fun e w' => e = .returned (.bool true) ∧ Below w.heap.size w w' := by
  obtain ⟨a1, n1, m1, rfl, hn, hr⟩ := hf.bts
  obtain ⟨c, hc⟩ : ∃ c, c = (decide (120 < h.ds.size) || decide (checkV (.mk h [] []) ≠ 0)) := ⟨_, rfl⟩
  refine ShowsCore h.kind h.bool h.neg h.ds h.exp h.tk h.day h.nano h.off h.text a1 a2 a3 n1 m1 n2 m2 n3 m3 w hE c ?_ ?_
  · intro hk0 hk6 hz ht hb w' hbw
    obtain ⟨rfl, rfl⟩ := hz
    by_cases hd : 120 < h.ds.size
    · have hct : c = true := by rw [hc, decide_eq_true hd]; rfl
      have key := Check_big h a1 a2 a3 m1 0 m2 0 m3 w' hd
      rw [hn] at key
      refine Calls.mono key ?_
      rintro e w2 ⟨r, hr0, rfl, hb2⟩
      exact ⟨r, by rw [hct, bne_iff_ne]; exact hr0, rfl, hb2⟩
    · have hct : c = decide (checkV (.mk h [] []) ≠ 0) := by rw [hc, decide_eq_false hd]; rfl
      refine Calls.mono (Check7_any (.mk h [] []) ⟨h, .slice a1 n1 m1, .slice a2 0 m2, .slice a3 0 m3⟩ w' (by rw [nodV_mk, nodL, nodF]; omega) ((hf.rd (by omega) ht (by omega)).stays hbw)) ?_
      rintro e w2 ⟨rfl, hb2⟩
      refine ⟨_, ?_, rfl, hb2⟩
      rw [hct, Bool.eq_iff_iff, bne_iff_ne, decide_eq_true_eq]
      omega
  · intro ht hb hor
    have hout : (h.kind < 0 ∨ 6 ≤ h.kind) → ∃ (P : List UInt8 → Prop) (n : Int), (∀ t t', P t → P t' → t = t') ∧
      OneOf 8 #[.agg #[.int .i64 h.kind, .bool h.bool, .bool h.neg, .string h.ds, .int .i64 h.exp, .int .i64 h.tk, .int .i64 h.day, .int .i64 h.nano, .int .i64 h.off, .string h.text, .slice a1 n1 m1, .slice a2 n2 m2, .slice a3 n3 m3]] P n w ∧
      OneOf 9 #[.agg #[.int .i64 h.kind, .bool h.bool, .bool h.neg, .string h.ds, .int .i64 h.exp, .int .i64 h.tk, .int .i64 h.day, .int .i64 h.nano, .int .i64 h.off, .string h.text, .slice a1 n1 m1, .slice a2 n2 m2, .slice a3 n3 m3]] P n w := fun hk =>
      ⟨(· = []), 6, eq_one, one_of (fun w' _ => IShow6 h.kind h.bool h.neg h.ds h.exp h.tk h.day h.nano h.off h.text a1 a2 a3 n1 m1 n2 m2 n3 m3 w' hk), one_of (fun w' _ => RShow6 h.kind h.bool h.neg h.ds h.exp h.tk h.day h.nano h.off h.text a1 a2 a3 n1 m1 n2 m2 n3 m3 w' hk)⟩
    by_cases hk : h.kind < 0 ∨ 6 ≤ h.kind
    · exact hout hk
    have hcf : c = false := hor.resolve_left hk
    rw [hcf] at hc
    obtain ⟨hc1, hc2⟩ := Bool.or_eq_false_iff.1 hc.symm
    have hck : checkV (.mk h [] []) = 0 := Classical.byContradiction (of_decide_eq_false hc2)
    obtain ⟨-, hdc, htm⟩ := oneE_flat (look_flat hck)
    have hrb := hr hb
    obtain ⟨k, bl, ng, ds, ex, tk, dy, na, ofs, tx, bs⟩ := h
    simp only at *
    rcases (by omega : k = 0 ∨ k = 1 ∨ k = 2 ∨ k = 3 ∨ k = 4 ∨ k = 5) with rfl | rfl | rfl | rfl | rfl | rfl
    · exact ⟨_, 0, eq_one, one_of (fun w' _ => IShow0 bl ng ds ex tk dy na ofs tx a1 a2 a3 n1 m1 n2 m2 n3 m3 w'), one_of (fun w' _ => RShow0 bl ng ds ex tk dy na ofs tx a1 a2 a3 n1 m1 n2 m2 n3 m3 w')⟩
    · exact ⟨_, 0, eq_one, one_of (fun w' _ => IShow1 bl ng ds ex tk dy na ofs tx a1 a2 a3 n1 m1 n2 m2 n3 m3 w'), one_of (fun w' _ => RShow1 bl ng ds ex tk dy na ofs tx a1 a2 a3 n1 m1 n2 m2 n3 m3 w')⟩
    · exact ⟨_, 0, eq_one, one_of (fun w' _ => IShow2 bl ng ds ex tk dy na ofs tx a1 a2 a3 n1 m1 n2 m2 n3 m3 w' hdc), one_of (fun w' _ => RShow2 bl ng ds ex tk dy na ofs tx a1 a2 a3 n1 m1 n2 m2 n3 m3 w' hdc)⟩
    · refine ⟨fun t => ∃ y m dd, DateIs dy.toNat y m dd ∧ t = tmL tk y m dd na.toNat ofs, 0, ?_, fun w' _ => ?_, fun w' _ => ?_⟩
      · rintro t t' ⟨y, m, d, hd, rfl⟩ ⟨y', m', d', hd', rfl⟩
        obtain ⟨rfl, rfl, rfl⟩ := hd.same hd'
        rfl
      · refine (IShow3 bl ng ds ex tk dy na ofs tx a1 a2 a3 n1 m1 n2 m2 n3 m3 w' (htm rfl)).mono ?_
        rintro e w2 ⟨y, m, d, hd, hp⟩
        exact ⟨_, ⟨y, m, d, hd, rfl⟩, hp⟩
      · refine (RShow3 bl ng ds ex tk dy na ofs tx a1 a2 a3 n1 m1 n2 m2 n3 m3 w' (htm rfl)).mono ?_
        rintro e w2 ⟨y, m, d, hd, hp⟩
        exact ⟨_, ⟨y, m, d, hd, rfl⟩, hp⟩
    · exact ⟨_, _, eq_one, one_of (fun w' _ => IShow4 bl ng ds ex tk dy na ofs tx a1 a2 a3 n1 m1 n2 m2 n3 m3 w' ht), one_of (fun w' _ => RShow4 bl ng ds ex tk dy na ofs tx a1 a2 a3 n1 m1 n2 m2 n3 m3 w' ht)⟩
    · exact ⟨_, 0, eq_one, one_of (fun w' hbw => IShow5 bl ng ds ex tk dy na ofs tx a1 a2 a3 n1 m1 n2 m2 n3 m3 w' bs (by omega) hn.symm (hrb.below hbw)), one_of (fun w' hbw => RShow5 bl ng ds ex tk dy na ofs tx a1 a2 a3 n1 m1 n2 m2 n3 m3 w' bs (by omega) hn.symm (hrb.below hbw))⟩
end Go.Proofs.YtlnpfpjncnkekaaGreatDoor
