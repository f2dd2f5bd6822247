/- The law IndentlexScalars walked. Conditions: the tables of unicode/utf8 as they are, a value of internal/bytealg.MaxLen. -/
import Derived.Test.YtlnpfpjncnkekaaGreatDoorZt34
import Derived.Test.YtlnpfpjncnkekaaGreatDoorZt22
import Derived.Test.YtlnpfpjncnkekaaGreatDoorZt33
import Derived.Test.YtlnpfpjncnkekaaGreatDoorZt31
import Derived.Test.YtlnpfpjncnkekaaGreatDoorZt32
import Derived.Test.YtlnpfpjncnkekaaGreatDoorZt17
import Derived.Test.YtlnpfpjncnkekaaGreatDoorZt30
namespace Go.Proofs.YtlnpfpjncnkekaaGreatDoor
open Go.RowKit
set_option maxHeartbeats 4000000
set_option maxRecDepth 100000
end Go.Proofs.YtlnpfpjncnkekaaGreatDoor

namespace Go.Proofs.YtlnpfpjncnkekaaGreatDoor
open Go.RowKit
set_option maxHeartbeats 1000000
set_option maxRecDepth 100000

/-! Bounds. -/
end Go.Proofs.YtlnpfpjncnkekaaGreatDoor

namespace Go.Proofs.YtlnpfpjncnkekaaGreatDoor
open Go.RowKit
set_option maxHeartbeats 1000000
set_option maxRecDepth 100000

def ScPost (w : World) (h : Hd) (n : Nat) (e : Ending) (w' : World) : Prop := (∃ b, e = .returned (.tuple #[aggV ⟨h, b, .slice none 0 0, .slice none 0 0⟩, .int .i64 (n : Int)]) ∧ RdB w' b h.bytes) ∧ Below w.heap.size w w'
def hZ : Hd := ⟨0, false, false, ⟨#[]⟩, 0, 0, 0, 0, 0, ⟨#[]⟩, []⟩
theorem hok {k e a b c d : Int} {bl n : Bool} {ds t : ByteArray} {bs : List UInt8} (h0 : I64 k) (h1 : I64 e) (h2 : I64 a) (h3 : I64 b) (h4 : I64 c) (h5 : I64 d) (h6 : ds.size ≤ 1000000000) (h7 : t.size ≤ 1000000000) (h8 : bs.length ≤ 1000000000) : HdOk ⟨k, bl, n, ds, e, a, b, c, d, t, bs⟩ :=
  ⟨h0, h1, h2, h3, h4, h5, h6, h7, h8⟩
theorem sc_of {P : Program} {f : FuncId} {av : Array Value} {w : World} {h : Hd} {n : Nat} {cs : List Value} (hc : Calls P f av w fun e w' => e = .returned (.tuple #[.agg cs.toArray, .int .i64 (n : Int)]) ∧ Below w.heap.size w w') (hb : h.bytes = []) (hcs : cs = VC.cells ⟨h, .slice none 0 0, .slice none 0 0, .slice none 0 0⟩) : Calls P f av w (ScPost w h n) := by
  refine hc.mono ?_
  rintro e w' ⟨rfl, hbw⟩
  subst hcs
  refine ⟨⟨.slice none 0 0, rfl, ?_⟩, hbw⟩
  rw [hb]
  exact Sl.nil
end Go.Proofs.YtlnpfpjncnkekaaGreatDoor

namespace Go.Proofs.YtlnpfpjncnkekaaGreatDoor
open Go.RowKit
set_option maxHeartbeats 4000000
set_option maxRecDepth 100000

/-- The text and the error that a call hands back. -/
def ShP (t : List UInt8) (n : Int) (w : World) (e : Ending) (w' : World) : Prop := (∃ u, e = .returned (.tuple #[.string u, .int .i64 n]) ∧ L u = t) ∧ Below w.heap.size w w'
theorem encP_len (l : List UInt8) : (encP l).length ≤ 2 * l.length + 8 := by
  unfold encP
  rw [List.length_append, List.length_map, encD_len, List.length_replicate]
  have : padN l.length ≤ 3 := by unfold padN; omega
  omega
theorem MText_any (k d n o : Int) (w : World) (hv : timeB k d n o = true) :
    Calls Tryz.prog 17 #[.agg #[.int .i64 k, .int .i64 d, .int .i64 n, .int .i64 o]] w fun e w' => ∃ y m dd, DateIs d.toNat y m dd ∧ StrP (tmL k y m dd n.toNat o) w e w' := by
  obtain ⟨h1, h2, h3, -, h5, -, -⟩ := timeB_yes _ _ _ _ hv
  obtain ⟨d, rfl⟩ : ∃ a : Nat, d = (a : Int) := ⟨d.toNat, by omega⟩
  obtain ⟨n, rfl⟩ : ∃ a : Nat, n = (a : Int) := ⟨n.toNat, by omega⟩
  rw [Int.toNat_natCast, Int.toNat_natCast]
  rcases (by omega : k = 1 ∨ k = 2 ∨ k = 3 ∨ k = 4) with rfl | rfl | rfl | rfl
  · exact MText1_any d n o w hv
  · exact MText2_any d n o w hv
  · exact MText3_any d n o w hv
  · exact MText4_any d n o w hv
theorem IShow0 (bl ng : Bool) (ds : ByteArray) (ex tk dy na ofs : Int) (tx : ByteArray) (a1 a2 a3 : Option Addr) (n1 m1 n2 m2 n3 m3 : Nat) (w : World) :
    Calls Tryz.prog 8 #[.agg #[.int .i64 0, .bool bl, .bool ng, .string ds, .int .i64 ex, .int .i64 tk, .int .i64 dy, .int .i64 na, .int .i64 ofs, .string tx, .slice a1 n1 m1, .slice a2 n2 m2, .slice a3 n3 m3]] w (ShP [110, 117, 108, 108] 0 w) := by
  go_enter Tryz.func8, Tryz.ntmps8
  go_upto_region 1 with fail
  generalize hW : World.alloc w _ = w1
  obtain ⟨ha1, -, hz1, hb1⟩ := alloc_of hW
  have HB1 := Lib.hid hb1
  obtain ⟨c0, c1, c2, c3, c4, c5, c6, c7, c8, c9, ca, cb, cc⟩ := row13 ha1
  have HX := Lib.hid ha1
  have HZ : Hid (w.heap.size < w1.heap.size) := by unfold Hid; omega
  clear hW hb1 ha1 hz1
  go_wp2_with fail
  go_ret2
  exact ⟨⟨_, rfl, rfl⟩, HB1.out⟩
theorem IShow1 (bl ng : Bool) (ds : ByteArray) (ex tk dy na ofs : Int) (tx : ByteArray) (a1 a2 a3 : Option Addr) (n1 m1 n2 m2 n3 m3 : Nat) (w : World) :
    Calls Tryz.prog 8 #[.agg #[.int .i64 1, .bool bl, .bool ng, .string ds, .int .i64 ex, .int .i64 tk, .int .i64 dy, .int .i64 na, .int .i64 ofs, .string tx, .slice a1 n1 m1, .slice a2 n2 m2, .slice a3 n3 m3]] w (ShP (if bl then [116, 114, 117, 101] else [102, 97, 108, 115, 101]) 0 w) := by
  cases bl
  all_goals
    go_enter Tryz.func8, Tryz.ntmps8
    go_upto_region 1 with fail
    generalize hW : World.alloc w _ = w1
    obtain ⟨ha1, -, hz1, hb1⟩ := alloc_of hW
    have HB1 := Lib.hid hb1
    obtain ⟨c0, c1, c2, c3, c4, c5, c6, c7, c8, c9, ca, cb, cc⟩ := row13 ha1
    have HX := Lib.hid ha1
    have HZ : Hid (w.heap.size < w1.heap.size) := by unfold Hid; omega
    clear hW hb1 ha1 hz1
    go_wp2_with fail
    go_ret2
    exact ⟨⟨_, rfl, rfl⟩, HB1.out⟩
theorem IShow2 (bl ng : Bool) (ds : ByteArray) (ex tk dy na ofs : Int) (tx : ByteArray) (a1 a2 a3 : Option Addr) (n1 m1 n2 m2 n3 m3 : Nat) (w : World) (hv : decB ng (L ds) ex = true) :
    Calls Tryz.prog 8 #[.agg #[.int .i64 2, .bool bl, .bool ng, .string ds, .int .i64 ex, .int .i64 tk, .int .i64 dy, .int .i64 na, .int .i64 ofs, .string tx, .slice a1 n1 m1, .slice a2 n2 m2, .slice a3 n3 m3]] w (ShP (decL ng (L ds) ex) 0 w) := by
  have HC := Lib.hid (fun w' => DDec_any ng ds ex w' hv)
  clear hv
  generalize decL ng (L ds) ex = t at *
  go_enter Tryz.func8, Tryz.ntmps8
  go_upto_region 1 with fail
  generalize hW : World.alloc w _ = w1
  obtain ⟨ha1, -, hz1, hb1⟩ := alloc_of hW
  have HB1 := Lib.hid hb1
  obtain ⟨c0, c1, c2, c3, c4, c5, c6, c7, c8, c9, ca, cb, cc⟩ := row13 ha1
  have HX := Lib.hid ha1
  have HZ : Hid (w.heap.size < w1.heap.size) := by unfold Hid; omega
  clear hW hb1 ha1 hz1
  go_wp2_with fail
  refine (HC.out _).mono ?_
  rintro e w2 ⟨⟨u, rfl, hu⟩, hb⟩
  have HU := Lib.hid hu
  have HB2 := Lib.hid (HB1.out.trans (hb.mono HB1.out.size))
  clear hu hb HC
  go_wp2_with fail
  go_ret2
  exact ⟨⟨_, rfl, HU.out⟩, HB2.out⟩
theorem IShow3 (bl ng : Bool) (ds : ByteArray) (ex tk dy na ofs : Int) (tx : ByteArray) (a1 a2 a3 : Option Addr) (n1 m1 n2 m2 n3 m3 : Nat) (w : World) (hv : timeB tk dy na ofs = true) :
    Calls Tryz.prog 8 #[.agg #[.int .i64 3, .bool bl, .bool ng, .string ds, .int .i64 ex, .int .i64 tk, .int .i64 dy, .int .i64 na, .int .i64 ofs, .string tx, .slice a1 n1 m1, .slice a2 n2 m2, .slice a3 n3 m3]] w fun e w' => ∃ y m dd, DateIs dy.toNat y m dd ∧ ShP (tmL tk y m dd na.toNat ofs) 0 w e w' := by
  have HC := Lib.hid (fun w' => MText_any tk dy na ofs w' hv)
  clear hv
  go_enter Tryz.func8, Tryz.ntmps8
  go_upto_region 1 with fail
  generalize hW : World.alloc w _ = w1
  obtain ⟨ha1, -, hz1, hb1⟩ := alloc_of hW
  have HB1 := Lib.hid hb1
  obtain ⟨c0, c1, c2, c3, c4, c5, c6, c7, c8, c9, ca, cb, cc⟩ := row13 ha1
  have HX := Lib.hid ha1
  have HZ : Hid (w.heap.size < w1.heap.size) := by unfold Hid; omega
  clear hW hb1 ha1 hz1
  go_wp2_with fail
  refine (HC.out _).mono ?_
  rintro e w2 ⟨y, m, dd, hd, ⟨u, rfl, hu⟩, hb⟩
  have HD := Lib.hid hd
  have HU := Lib.hid hu
  have HB2 := Lib.hid (HB1.out.trans (hb.mono HB1.out.size))
  clear hu hb hd HC
  go_wp2_with fail
  go_ret2
  exact ⟨y, m, dd, HD.out, ⟨_, rfl, HU.out⟩, HB2.out⟩
theorem IShow4 (bl ng : Bool) (ds : ByteArray) (ex tk dy na ofs : Int) (tx : ByteArray) (a1 a2 a3 : Option Addr) (n1 m1 n2 m2 n3 m3 : Nat) (w : World) (hs : tx.size ≤ 2000) :
    Calls Tryz.prog 8 #[.agg #[.int .i64 4, .bool bl, .bool ng, .string ds, .int .i64 ex, .int .i64 tk, .int .i64 dy, .int .i64 na, .int .i64 ofs, .string tx, .slice a1 n1 m1, .slice a2 n2 m2, .slice a3 n3 m3]] w (ShP (if plS tx then L tx else (quoR (L tx)).1) (if plS tx then 0 else (quoR (L tx)).2) w) := by
  have HP := Lib.hid (fun w' => Plain_any tx w' (by omega))
  have HQ := Lib.hid (fun w' => QuoteI_any tx w' (by omega))
  generalize plS tx = p at *
  generalize quoR (L tx) = q at *
  obtain ⟨x, n⟩ := q
  dsimp only at HQ
  cases p
  · go_enter Tryz.func8, Tryz.ntmps8
    go_upto_region 1 with fail
    generalize hW : World.alloc w _ = w1
    obtain ⟨ha1, -, hz1, hb1⟩ := alloc_of hW
    have HB1 := Lib.hid hb1
    obtain ⟨c0, c1, c2, c3, c4, c5, c6, c7, c8, c9, ca, cb, cc⟩ := row13 ha1
    have HX := Lib.hid ha1
    have HZ : Hid (w.heap.size < w1.heap.size) := by unfold Hid; omega
    clear hW hb1 ha1 hz1
    go_wp2_with fail
    refine (HP.out _).mono ?_
    rintro e w2 ⟨rfl, hb⟩
    have HB2 := Lib.hid (HB1.out.trans (hb.mono HB1.out.size))
    clear c0 c1 c2 c3 c4 c5 c6 c7 c8 c9 ca cb cc HP
    obtain ⟨c0, c1, c2, c3, c4, c5, c6, c7, c8, c9, ca, cb, cc⟩ := row13 ((hb.block _ HZ.out).trans HX.out)
    clear hb
    go_wp2_with fail
    refine (HQ.out _).mono ?_
    rintro e w3 ⟨rfl, hb⟩
    have HB3 := Lib.hid (HB2.out.trans (hb.mono HB2.out.size))
    clear hb HQ
    go_wp2_with fail
    go_ret2
    exact ⟨⟨_, rfl, by rw [L_mk]⟩, HB3.out⟩
  · go_enter Tryz.func8, Tryz.ntmps8
    go_upto_region 1 with fail
    generalize hW : World.alloc w _ = w1
    obtain ⟨ha1, -, hz1, hb1⟩ := alloc_of hW
    have HB1 := Lib.hid hb1
    obtain ⟨c0, c1, c2, c3, c4, c5, c6, c7, c8, c9, ca, cb, cc⟩ := row13 ha1
    have HX := Lib.hid ha1
    have HZ : Hid (w.heap.size < w1.heap.size) := by unfold Hid; omega
    clear hW hb1 ha1 hz1
    go_wp2_with fail
    refine (HP.out _).mono ?_
    rintro e w2 ⟨rfl, hb⟩
    have HB2 := Lib.hid (HB1.out.trans (hb.mono HB1.out.size))
    clear c0 c1 c2 c3 c4 c5 c6 c7 c8 c9 ca cb cc HP
    obtain ⟨c0, c1, c2, c3, c4, c5, c6, c7, c8, c9, ca, cb, cc⟩ := row13 ((hb.block _ HZ.out).trans HX.out)
    clear hb
    go_wp2_with fail
    go_ret2
    exact ⟨⟨_, rfl, rfl⟩, HB2.out⟩
theorem IShow5 (bl ng : Bool) (ds : ByteArray) (ex tk dy na ofs : Int) (tx : ByteArray) (a1 a2 a3 : Option Addr) (n1 m1 n2 m2 n3 m3 : Nat) (w : World) (l : List UInt8) (hl : l.length ≤ 2000) (hn : n1 = l.length) (hr : RdB w (.slice a1 n1 m1) l) :
    Calls Tryz.prog 8 #[.agg #[.int .i64 5, .bool bl, .bool ng, .string ds, .int .i64 ex, .int .i64 tk, .int .i64 dy, .int .i64 na, .int .i64 ofs, .string tx, .slice a1 n1 m1, .slice a2 n2 m2, .slice a3 n3 m3]] w (ShP (if l = [] then [33, 98] else [33, 98, 32] ++ encP l) 0 w) := by
  have HR := Lib.hid hr
  clear hr
  by_cases h0 : l = []
  · rw [if_pos h0]
    obtain rfl : n1 = 0 := by rw [hn, h0]; rfl
    clear h0 hn HR hl
    go_enter Tryz.func8, Tryz.ntmps8
    go_upto_region 1 with fail
    generalize hW : World.alloc w _ = w1
    obtain ⟨ha1, -, hz1, hb1⟩ := alloc_of hW
    have HB1 := Lib.hid hb1
    obtain ⟨c0, c1, c2, c3, c4, c5, c6, c7, c8, c9, ca, cb, cc⟩ := row13 ha1
    have HX := Lib.hid ha1
    have HZ : Hid (w.heap.size < w1.heap.size) := by unfold Hid; omega
    clear hW hb1 ha1 hz1
    go_wp2_with fail
    go_ret2
    exact ⟨⟨_, rfl, rfl⟩, HB1.out⟩
  · rw [if_neg h0]
    have hn0 : ((n1 : Int) == 0) = false := beq_false_of_ne (by have := List.length_pos_iff.2 h0; omega)
    have HE : Hid (∀ w', Below w.heap.size w w' → Calls Tryz.prog 20 #[.slice a1 n1 m1, .bool true] w' fun e w2 => e = .returned (.string ⟨(encP l).toArray⟩) ∧ Below w'.heap.size w' w2) := fun w' hb => BEncode_any l _ w' (HR.out.below hb) (by omega)
    have HLN : Hid ((encP l).length ≤ 100000) := by
      have := encP_len l
      unfold Hid
      omega
    generalize encP l = t at *
    clear h0 hn hl HR
    go_enter Tryz.func8, Tryz.ntmps8
    go_upto_region 1 with fail
    generalize hW : World.alloc w _ = w1
    obtain ⟨ha1, -, hz1, hb1⟩ := alloc_of hW
    have HB1 := Lib.hid hb1
    obtain ⟨c0, c1, c2, c3, c4, c5, c6, c7, c8, c9, ca, cb, cc⟩ := row13 ha1
    have HX := Lib.hid ha1
    have HZ : Hid (w.heap.size < w1.heap.size) := by unfold Hid; omega
    clear hW hb1 ha1 hz1
    go_wp2_with fail
    refine (HE.out _ HB1.out).mono ?_
    rintro e w2 ⟨rfl, hb⟩
    have HB2 := Lib.hid (HB1.out.trans (hb.mono HB1.out.size))
    clear hb HE c0 c1 c2 c3 c4 c5 c6 c7 c8 c9 ca cb cc
    have htz : (⟨t.toArray⟩ : ByteArray).size ≤ 100000 := by
      have := L_len ⟨t.toArray⟩
      rw [L_mk] at this
      have := HLN.out
      omega
    obtain ⟨tb, htb⟩ : ∃ tb : ByteArray, (⟨t.toArray⟩ : ByteArray) = tb := ⟨_, rfl⟩
    rw [htb] at htz ⊢
    have HTB : Hid (L tb = t) := by unfold Hid; rw [← htb, L_mk]
    clear htb
    go_wp2_with fail
    go_ret2
    exact ⟨⟨_, rfl, by rw [L_append, HTB.out]; rfl⟩, HB2.out⟩
end Go.Proofs.YtlnpfpjncnkekaaGreatDoor

namespace Go.Proofs.YtlnpfpjncnkekaaGreatDoor
open Go.RowKit
set_option maxRecDepth 100000
set_option maxHeartbeats 1000000

/-- A text that the scalar h is read from; it is one line. -/
structure Tells (h : Hd) (t : List UInt8) : Prop where
  len : t.length ≤ 90000
  one : OneLn t
  sc : ∀ u : ByteArray, L u = t → ∀ w, EnvI w → Calls Tryz.prog 10 #[.string u] w (ScPost w h 0)
theorem okC_byte0 : ∀ n : Fin 256, okC (UInt8.ofNat n.val) = true → 32 < n.val ∧ n.val < 127 ∧ n.val ≠ 35 ∧ n.val ≠ 39 ∧ n.val ≠ 34 := by decide +kernel
theorem okC_byte (b : UInt8) (h : okC b = true) : 32 < b.toNat ∧ b.toNat < 127 ∧ b.toNat ≠ 35 ∧ b.toNat ≠ 39 ∧ b.toNat ≠ 34 := by
  have := okC_byte0 ⟨b.toNat, b.toNat_lt⟩
  simp only [UInt8.ofNat_toNat] at this
  exact this h
theorem okC_one (l : List UInt8) (hne : l ≠ []) (h : ∀ b ∈ l, okC b = true) : OneLn l ∧ validL l = true ∧ ctlB l = false := by
  refine ⟨one_of_bytes l hne (fun b hb => okC_byte b (h b hb)), decide_eq_true (ascii_valid l (fun b hb => by have := okC_byte b (h b hb); omega)), ctl_of_bytes l (fun b hb => by have := okC_byte b (h b hb); omega)⟩
theorem word_no (l : List UInt8) (hne : l ≠ []) (h : ∀ b ∈ l, okC b = true) : ¬ wordS l := by
  rintro (rfl | rfl | rfl | rfl | rfl)
  · exact hne rfl
  · exact absurd (h 110 (by decide)) (by decide)
  · exact absurd (h 116 (by decide)) (by decide)
  · exact absurd (h 102 (by decide)) (by decide)
  · exact absurd (h 33 (by decide)) (by decide)
theorem size_of_L {u : ByteArray} {t : List UInt8} (h : L u = t) : u.size = t.length := by rw [← h, L_len]
theorem ba_of_L {u v : ByteArray} {t : List UInt8} (h : L u = t) (hv : L v = t) : u = v := L_inj (h.trans hv.symm)
theorem ba_nil {u : ByteArray} (h : u.size = 0) : u = ⟨#[]⟩ := L_inj (List.length_eq_zero_iff.1 ((L_len u).trans h))
theorem own_flat {h : Hd} (ho : ownB h 0 0 = true) : (h.kind = 1 ∨ h.bool = false) ∧ (h.kind = 2 ∨ (h.neg = false ∧ h.ds = ⟨#[]⟩ ∧ h.exp = 0)) ∧ (h.kind = 3 ∨ (h.tk = 0 ∧ h.day = 0 ∧ h.nano = 0 ∧ h.off = 0)) ∧ (h.kind = 4 ∨ h.text = ⟨#[]⟩) ∧ (h.kind = 5 ∨ h.bytes = []) := by
  unfold ownB at ho
  rw [decide_eq_true_iff] at ho
  obtain ⟨-, -, h1, h2, h3, h4, h5, -, -⟩ := ho
  exact ⟨h1, h2.imp id (fun ⟨a, b, c⟩ => ⟨a, ba_nil b, c⟩), h3, h4.imp id ba_nil, h5.imp id List.length_eq_zero_iff.1⟩
theorem word_one (l : List UInt8) (h : l = [110, 117, 108, 108] ∨ l = [116, 114, 117, 101] ∨ l = [102, 97, 108, 115, 101]) : OneLn l := by
  refine one_of_bytes l (by rcases h with rfl | rfl | rfl <;> simp) (fun b hb => ?_)
  rcases h with rfl | rfl | rfl
  all_goals
    simp only [List.mem_cons, List.not_mem_nil, or_false] at hb
    rcases hb with rfl | rfl | rfl | rfl | rfl <;> decide
theorem told0 (h : Hd) (ho : ownB h 0 0 = true) (hk : h.kind = 0) : Tells h [110, 117, 108, 108] := by
  obtain ⟨k, bl, ng, ds, ex, tk, dy, na, ofs, tx, bs⟩ := h
  obtain ⟨h1, h2, h3, h4, h5⟩ := own_flat ho
  simp only at *
  subst hk
  obtain rfl := h1.resolve_left (by decide)
  obtain ⟨rfl, rfl, rfl⟩ := h2.resolve_left (by decide)
  obtain ⟨rfl, rfl, rfl, rfl⟩ := h3.resolve_left (by decide)
  obtain rfl := h4.resolve_left (by decide)
  obtain rfl := h5.resolve_left (by decide)
  refine ⟨by simp, word_one _ (.inl rfl), fun u hu w _ => ?_⟩
  obtain rfl := ba_of_L (v := ⟨#[110, 117, 108, 108]⟩) hu rfl
  exact sc_of (Sc_null w) rfl rfl
theorem told1 (h : Hd) (ho : ownB h 0 0 = true) (hk : h.kind = 1) : Tells h (if h.bool then [116, 114, 117, 101] else [102, 97, 108, 115, 101]) := by
  obtain ⟨k, bl, ng, ds, ex, tk, dy, na, ofs, tx, bs⟩ := h
  obtain ⟨h1, h2, h3, h4, h5⟩ := own_flat ho
  simp only at *
  subst hk
  obtain ⟨rfl, rfl, rfl⟩ := h2.resolve_left (by decide)
  obtain ⟨rfl, rfl, rfl, rfl⟩ := h3.resolve_left (by decide)
  obtain rfl := h4.resolve_left (by decide)
  obtain rfl := h5.resolve_left (by decide)
  cases bl
  · refine ⟨by simp, word_one _ (.inr (.inr rfl)), fun u hu w _ => ?_⟩
    obtain rfl := ba_of_L (v := ⟨#[102, 97, 108, 115, 101]⟩) hu rfl
    exact sc_of (Sc_false w) rfl rfl
  · refine ⟨by simp, word_one _ (.inr (.inl rfl)), fun u hu w _ => ?_⟩
    obtain rfl := ba_of_L (v := ⟨#[116, 114, 117, 101]⟩) hu rfl
    exact sc_of (Sc_true w) rfl rfl
theorem decL_len (neg : Bool) (l : List UInt8) (e : Int) (h : decB neg l e = true) : decL neg l e ≠ [] ∧ (decL neg l e).length ≤ 90000 := by
  unfold decL
  split
  · simp
  rename_i hn
  obtain ⟨hok, h1, h2⟩ := ds_of h hn
  have hl := hok.len
  have hp := List.length_pos_iff.2 hn
  have hs : (L (sgB neg)).length ≤ 1 := by cases neg <;> decide
  have hb : bodL l e ≠ [] ∧ (bodL l e).length ≤ 80000 := by
    unfold bodL
    simp only
    split
    · refine ⟨by simp [hn], ?_⟩
      rw [List.length_append, List.length_replicate]
      omega
    split
    · refine ⟨by simp, ?_⟩
      simp only [List.length_append, List.length_cons, List.length_take, List.length_drop]
      omega
    split
    · refine ⟨by simp, ?_⟩
      simp only [List.length_append, List.length_cons, List.length_replicate]
      omega
    · have h2 : (if 1 < l.length then 46 :: l.drop 1 else []).length ≤ 121 := by
        split
        · simp only [List.length_cons, List.length_drop]; omega
        · simp
      have h3 : (if (l.length : Int) + e < 1 then 101 :: 45 :: wholeL (1 - ((l.length : Int) + e)).toNat else 101 :: wholeL ((l.length : Int) + e - 1).toNat).length ≤ 10 := by
        split
        · have := wholeL_len (1 - ((l.length : Int) + e)).toNat (by omega)
          simp only [List.length_cons]; omega
        · have := wholeL_len ((l.length : Int) + e - 1).toNat (by omega)
          simp only [List.length_cons]; omega
      refine ⟨fun h => ?_, ?_⟩
      · have := congrArg List.length h
        rw [List.length_append, List.length_take, List.length_nil] at this
        omega
      · rw [List.length_append, List.length_append, List.length_take]
        omega
  refine ⟨by simp [hb.1], ?_⟩
  rw [List.length_append]
  omega
theorem told2 (h : Hd) (ho : ownB h 0 0 = true) (hk : h.kind = 2) (hd : decB h.neg (L h.ds) h.exp = true) : Tells h (decL h.neg (L h.ds) h.exp) := by
  obtain ⟨k, bl, ng, ds, ex, tk, dy, na, ofs, tx, bs⟩ := h
  obtain ⟨h1, h2, h3, h4, h5⟩ := own_flat ho
  simp only at *
  subst hk
  obtain rfl := h1.resolve_left (by decide)
  obtain ⟨rfl, rfl, rfl, rfl⟩ := h3.resolve_left (by decide)
  obtain rfl := h4.resolve_left (by decide)
  obtain rfl := h5.resolve_left (by decide)
  obtain ⟨hne, hln⟩ := decL_len ng (L ds) ex hd
  have hby := dec_bytes ng (L ds) ex hd
  obtain ⟨o1, o2, o3⟩ := okC_one _ hne hby
  have hbk := dec_back ng (L ds) ex hd
  refine ⟨hln, o1, fun u hu w _ => ?_⟩
  have := Sc_num u w (by rw [size_of_L hu]; omega) (by rw [hu]; exact o2) (by rw [hu]; exact o3) (by rw [hu]; exact word_no _ hne hby) ⟨ng, L ds, ex, 0⟩ (by rw [hu]; exact hbk) rfl
  refine sc_of this rfl ?_
  simp only [mk_L]
  rfl
theorem tmL_ne (k : Int) (y m d n : Nat) (o : Int) : tmL k y m d n o ≠ [] ∧ (tmL k y m d n o).length ≤ 100 := by
  have h1 := dateL_len y m d
  have h2 := clockL_len n
  have h3 := offL_len o
  have hd : dateL y m d ≠ [] := by
    intro h
    rw [h] at h1
    cases h1
  have hc : clockL n ≠ [] := by unfold clockL; rw [padL]; simp
  unfold tmL
  split
  · exact ⟨hd, by omega⟩
  split
  · exact ⟨hc, by omega⟩
  split
  · refine ⟨by simp [hd], ?_⟩
    simp only [List.length_append, List.length_cons, List.length_nil]
    omega
  · refine ⟨by simp [hd], ?_⟩
    simp only [List.length_append, List.length_cons, List.length_nil]
    omega
theorem told3 (h : Hd) (ho : ownB h 0 0 = true) (hk : h.kind = 3) (ht : timeB h.tk h.day h.nano h.off = true) (y m d : Nat) (hd : DateIs h.day.toNat y m d) : Tells h (tmL h.tk y m d h.nano.toNat h.off) := by
  obtain ⟨k, bl, ng, ds, ex, tk, dy, na, ofs, tx, bs⟩ := h
  obtain ⟨h1, h2, h3, h4, h5⟩ := own_flat ho
  simp only at *
  subst hk
  obtain rfl := h1.resolve_left (by decide)
  obtain ⟨rfl, rfl, rfl⟩ := h2.resolve_left (by decide)
  obtain rfl := h4.resolve_left (by decide)
  obtain rfl := h5.resolve_left (by decide)
  obtain ⟨hne, hln⟩ := tmL_ne tk y m d na.toNat ofs
  have hby := tm_bytes tk y m d na.toNat ofs
  obtain ⟨o1, o2, o3⟩ := okC_one _ hne hby
  have hbk := tm_back tk dy na ofs y m d ht hd
  have hnu := tm_num tk y m d na.toNat ofs
  refine ⟨by omega, o1, fun u hu w _ => ?_⟩
  exact sc_of (Sc_tim u w (by rw [size_of_L hu]; omega) (by rw [hu]; exact o2) (by rw [hu]; exact o3) (by rw [hu]; exact word_no _ hne hby) ((dec_err _ _).2 (by rw [hu]; exact hnu)) tk dy na ofs (by rw [hu]; exact hbk)) rfl rfl
theorem told4 (h : Hd) (ho : ownB h 0 0 = true) (hk : h.kind = 4) (hv : validL (L h.text) = true) (hs : h.text.size ≤ 2000) : Tells h (if plS h.text then L h.text else (quoR (L h.text)).1) ∧ (if plS h.text then (0 : Int) else (quoR (L h.text)).2) = 0 := by
  obtain ⟨k, bl, ng, ds, ex, tk, dy, na, ofs, tx, bs⟩ := h
  obtain ⟨h1, h2, h3, h4, h5⟩ := own_flat ho
  simp only at *
  subst hk
  obtain rfl := h1.resolve_left (by decide)
  obtain ⟨rfl, rfl, rfl⟩ := h2.resolve_left (by decide)
  obtain ⟨rfl, rfl, rfl, rfl⟩ := h3.resolve_left (by decide)
  obtain rfl := h5.resolve_left (by decide)
  have hb : badL (L tx) = (L tx).length := of_decide_eq_true hv
  have htx : txtR tx = (vT tx, 0) := if_neg (by omega)
  by_cases hp : plS tx = true
  · rw [if_pos hp, if_pos hp]
    obtain ⟨p1, p2, p3, p4⟩ := pl_parts tx hp
    obtain ⟨pp, p5, p6, p7, -⟩ := simp_first tx p1
    refine ⟨⟨by rw [L_len]; omega, one_simple _ p1, fun u hu w hE => ?_⟩, rfl⟩
    obtain rfl := L_inj hu
    have := Sc_plain u w (by omega) hv (simp_ctl _ p1) p2 ((dec_err _ _).2 p3) p4 pp ⟨p5, p6⟩ p7 hE (simp_plain _ p1)
    rw [htx] at this
    exact sc_of (n := 0) this rfl rfl
  · rw [if_neg hp, if_neg hp]
    obtain ⟨hq1, hq2⟩ := quo_cons _ hb
    have hlen := quo_len (L tx)
    rw [L_len] at hlen
    refine ⟨⟨by omega, one_quoted _ hb, fun u hu w hE => ?_⟩, by rw [hq2]; rfl⟩
    have hsz := size_of_L hu
    have hqp : 0 < u.size := by
      rw [hsz, hq1]
      simp
    have hq0 : u[0].toNat = 34 := by
      have hd := L_drop u 0 hqp
      rw [List.drop_zero, hu, hq1] at hd
      injection hd with hd _
      rw [← hd]
      rfl
    have hqu : unqR (L u) = (L tx, 0) := by
      have h2 := unq_back _ hb
      rw [hu]
      rw [hq1] at h2 ⊢
      rw [unqR, if_pos (by decide)]
      exact h2
    have := Sc_quo u w (by omega) (by rw [hu]; exact decide_eq_true (bad_back _ hb)) (by rw [hu]; exact ctl_quo _) (by
      rw [hu, hq1]
      rintro (h | h | h | h | h)
      · cases h
      all_goals (injection h with h _; revert h; decide)) (by rw [dec_err, hu, hq1]; exact num_head 34 _ (by decide) (by decide)) (by rw [← tim_form, hu, hq1]; exact rp_head 34 _ (by decide)) hqp (.inl hq0) _ hqu
    rw [show (⟨(L tx).toArray⟩ : ByteArray) = tx from mk_L tx, htx] at this
    exact sc_of (n := 0) this rfl rfl
theorem lt64_byte : ∀ n : Fin 64, 32 < (lt64 n.val).toNat ∧ (lt64 n.val).toNat < 127 ∧ (lt64 n.val).toNat ≠ 35 ∧ (lt64 n.val).toNat ≠ 39 ∧ (lt64 n.val).toNat ≠ 34 := by decide +kernel
theorem encP_bytes (l : List UInt8) : ∀ b ∈ encP l, 32 < b.toNat ∧ b.toNat < 127 ∧ b.toNat ≠ 35 ∧ b.toNat ≠ 39 ∧ b.toNat ≠ 34 := by
  intro b hb
  unfold encP at hb
  rcases List.mem_append.1 hb with hb | hb
  · obtain ⟨n, hn, rfl⟩ := List.mem_map.1 hb
    exact lt64_byte ⟨n, encD_lt l n hn⟩
  · rw [(List.mem_replicate.1 hb).2]
    decide
theorem told5 (h : Hd) (ho : ownB h 0 0 = true) (hk : h.kind = 5) (hs : h.bytes.length ≤ 2000) : Tells h (if h.bytes = [] then [33, 98] else [33, 98, 32] ++ encP h.bytes) := by
  obtain ⟨k, bl, ng, ds, ex, tk, dy, na, ofs, tx, bs⟩ := h
  obtain ⟨h1, h2, h3, h4, h5⟩ := own_flat ho
  simp only at *
  subst hk
  obtain rfl := h1.resolve_left (by decide)
  obtain ⟨rfl, rfl, rfl⟩ := h2.resolve_left (by decide)
  obtain ⟨rfl, rfl, rfl, rfl⟩ := h3.resolve_left (by decide)
  obtain rfl := h4.resolve_left (by decide)
  by_cases hb : bs = []
  · subst hb
    rw [if_pos rfl]
    refine ⟨by simp, one_of_bytes _ (by simp) (fun b hb => ?_), fun u hu w _ => ?_⟩
    · simp only [List.mem_cons, List.not_mem_nil, or_false] at hb
      rcases hb with rfl | rfl <;> decide
    · obtain rfl := ba_of_L (v := ⟨#[33, 98]⟩) hu rfl
      exact sc_of (Sc_b w) rfl rfl
  · rw [if_neg hb]
    obtain ⟨hok, hbk⟩ := back_enc bs
    have hln := encP_len bs
    have hby := encP_bytes bs
    have hne : encP bs ≠ [] := by
      intro h
      rw [h] at hbk
      exact hb hbk.symm
    have hlo : ∀ b ∈ [33, 98, 32] ++ encP bs, 32 ≤ b.toNat ∧ b.toNat < 127 ∧ b.toNat ≠ 35 ∧ b.toNat ≠ 39 ∧ b.toNat ≠ 34 := by
      intro b h
      rcases List.mem_append.1 h with h | h
      · simp only [List.mem_cons, List.not_mem_nil, or_false] at h
        rcases h with rfl | rfl | rfl <;> decide
      · have := hby b h
        omega
    have hval := ascii_valid _ (fun b hb => by have := hlo b hb; omega)
    have hctl := ctl_of_bytes _ (fun b hb => (hlo b hb).1)
    refine ⟨by rw [List.length_append]; simp only [List.length_cons, List.length_nil]; omega, ⟨by simp, fun hm => by have := (hlo _ hm).1; revert this; decide, hval, by simp, ?_, hash_none _ _ (fun b hb => (hlo b hb).2.2)⟩, fun u hu w _ => ?_⟩
    · intro hl
      rw [List.getLast?_append, List.getLast?_eq_some_getLast hne] at hl
      have hx : (encP bs).getLast hne = 32 := by simpa using hl
      have := (hby _ (List.getLast_mem hne)).1
      rw [hx] at this
      revert this
      decide
    · have hsz := size_of_L hu
      have hu3 : L u = 33 :: 98 :: 32 :: encP bs := hu
      have hp : 0 < u.size := by rw [hsz]; simp
      have h33 : u[0].toNat = 33 := by
        have hd := L_drop u 0 hp
        rw [List.drop_zero, hu3] at hd
        injection hd with hd _
        rw [← hd]
        rfl
      have hdr : (L u).drop 3 = encP bs := by rw [hu3]; rfl
      have key := Sc_b64 u w (by rw [hsz, List.length_append]; simp only [List.length_cons, List.length_nil]; omega) (by rw [hu]; exact decide_eq_true hval) (by rw [hu]; exact hctl) (by
        rw [hu3]
        rintro (h | h | h | h | h)
        · cases h
        · injection h with h _; revert h; decide
        · injection h with h _; revert h; decide
        · injection h with h _; revert h; decide
        · injection h with _ h; injection h with _ h; cases h) (by rw [dec_err, hu3]; exact num_head 33 _ (by decide) (by decide)) (by rw [← tim_form, hu3]; exact rp_head 33 _ (by decide)) hp ⟨by omega, by omega⟩ (by rw [hu3]; rfl) (by rw [hdr]; exact hok) (by rw [hdr, hbk]; exact hb) (by rw [hdr, hbk]; omega)
      rw [hdr, hbk] at key
      refine key.mono ?_
      rintro e w' ⟨⟨v, rfl, hrd⟩, hbw⟩
      exact ⟨⟨v, rfl, hrd⟩, hbw⟩
end Go.Proofs.YtlnpfpjncnkekaaGreatDoor

namespace Go.Proofs.YtlnpfpjncnkekaaGreatDoor
open Go.RowKit
set_option maxHeartbeats 4000000
set_option maxRecDepth 100000

theorem flat_rd {w : World} {h : Hd} {b : Value} (ok : HdOk h) (hb : RdB w b h.bytes) : RdV w ⟨h, b, .slice none 0 0, .slice none 0 0⟩ (.mk h [] []) :=
  .mk h [] [] b (.slice none 0 0) (.slice none 0 0) (fun _ => ⟨h, b, b, b⟩) (fun _ => ⟨h, b, b, b⟩) ok hb Sl.nil (fun _ hi => absurd hi (Nat.not_lt_zero _)) Sl.nil (fun _ hi => absurd hi (Nat.not_lt_zero _)) (fun _ hi => absurd hi (Nat.not_lt_zero _)) (fun _ _ _ _ _ _ _ => trivial) (fun _ _ _ _ _ _ _ => trivial) (fun _ _ _ _ _ _ _ => trivial)
end Go.Proofs.YtlnpfpjncnkekaaGreatDoor
