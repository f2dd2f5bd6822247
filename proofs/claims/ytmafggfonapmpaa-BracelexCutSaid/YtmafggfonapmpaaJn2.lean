/- bracelex.Join walked. Conditions: the joined text of at most 10^9 bytes; the tokens in a row of the caller's own. -/
import Derived.Test.YtmafggfonapmpaaJn1
import Derived.Test.YtmafggfonapmpaaL2
namespace Go.Proofs.Ytmafggfonapmpaa
open Go.RowKit
set_option maxHeartbeats 1000000
set_option maxRecDepth 100000

theorem isb_alloc {T e : TypeId} {B b : Nat} {bs : List Value} {w : World} (h : Lib.IsBuilder T e B b bs w) (o : Obj) : Lib.IsBuilder T e B b bs (w.alloc o) := by
  have hb : ∀ p, Lib.BuilderAt T e B b p bs w → Lib.BuilderAt T e B b p bs (w.alloc o) := by
    rintro p ⟨hB, v, hh, hown, hne⟩
    have hlt : b < w.heap.size := by
      rcases Nat.lt_or_ge b w.heap.size with h' | h'
      · exact h'
      · simp [Array.getElem?_eq_none h'] at hh
    exact ⟨hB, v, (heap_alloc_old w o hlt).trans hh, hown.alloc o, hne⟩
  rcases h with h | h
  · exact .inl (hb _ h)
  · exact .inr (hb _ h)
/-- The bytes of tokens. -/
def txts (T : List (Nat × ByteArray × Nat)) : List UInt8 := T.flatMap fun x => L x.2.1
theorem txts_snoc (T : List (Nat × ByteArray × Nat)) (k : Nat) (h : k < T.length) : txts (T.take (k + 1)) = txts (T.take k) ++ L T[k].2.1 := by
  unfold txts
  rw [List.take_succ_eq_append_getElem h, List.flatMap_append]
  simp only [List.flatMap_cons, List.flatMap_nil, List.append_nil]
theorem txts_le (T : List (Nat × ByteArray × Nat)) (k : Nat) : (txts (T.take k)).length ≤ (txts T).length := by
  have h : txts T = txts (T.take k) ++ txts (T.drop k) := by
    unfold txts
    rw [← List.flatMap_append, List.take_append_drop]
  rw [h, List.length_append]
  omega
theorem Join_any (T : List (Nat × ByteArray × Nat)) (v : Value) (base : Nat) (w : World) (hown : w.ownsRow base 24 3 v T.length (T.flatMap tk)) (hlen : (txts T).length ≤ 1000000000) :
    Calls Try.prog 18 #[v] w fun e w' => e = .returned (.string ⟨(txts T).toArray⟩) ∧ Below w.heap.size w w' := by
  obtain ⟨hTm, A, cap, rfl, hA⟩ := own_form hown
  have HO := Lib.hid hown; clear hown
  have HA := Lib.hid hA; clear hA
  have HL := Lib.hid hlen; clear hlen
  have hb0 : Lib.IsBuilder 62 5 w.heap.size w.heap.size [] (w.alloc (.cells #[.pointer none, .slice none 0 0] 62)) := Lib.fresh_isBuilder _ _ w
  have HB := Lib.hid hb0; clear hb0
  go_enter Try.func18, Try.ntmps18
  go_wp2_with fail
  go_loopw [5, 8] (fun _ cnt wr => ∃ k : Nat, k ≤ T.length ∧ cnt = .int .i64 k ∧ Hid (Lib.IsBuilder 62 5 w.heap.size w.heap.size ((txts (T.take k)).map bv) wr) ∧ Below w.heap.size w wr) (fun _ cnt _ => T.length - (intOf cnt).toNat)
  case atStart => exact ⟨0, Nat.zero_le _, rfl, HB.out, (Below.refl _ _).alloc (Nat.le_refl _) _⟩
  case round =>
    clear HB
    obtain ⟨k, hk, rfl, HI, hbw⟩ := hrel
    have hz := hbw.size
    by_cases hlt : k < T.length
    case neg =>
      obtain rfl : k = T.length := by omega
      have HI2 : Hid (Lib.IsBuilder 62 5 w.heap.size w.heap.size (Lib.byteCells (txts T)) wr) := by
        have := HI.out
        rw [List.take_length] at this
        exact this
      clear HI
      go_wp2_with (go_at_call 30; refine (String_any _ _ _ _ HI2.out hz).mono ?_; rintro e w2 ⟨rfl, hb2⟩)
      go_ret
      exact ⟨rfl, hbw.trans hb2⟩
    obtain ⟨g, rfl, _, hg⟩ := HA.out (by omega)
    obtain ⟨c0, c1, c2⟩ := tok_cells (own_below HO.out hbw) k hlt
    have hl := txts_le T (k + 1)
    rw [txts_snoc T k hlt, List.length_append, L_len] at hl
    have HN : Hid ((txts (T.take k)).map bv ++ Lib.strCells T[k].2.1 = (txts (T.take (k + 1))).map bv) := by
      unfold Hid
      rw [txts_snoc T k hlt, List.map_append, strCells_L]
    have HLN : Hid (((txts (T.take k)).map bv).length + T[k].2.1.size ≤ 140737488355328) := by
      have := HL.out
      unfold Hid
      rw [List.length_map]
      omega
    clear hl
    generalize T[k].1 = t0 at *
    generalize T[k].2.1 = t1 at *
    generalize T[k].2.2 = t2 at *
    have HI3 := Lib.hid (isb_alloc HI.out (.cells #[.int .i64 t0, .string t1, .int .i64 t2] 24))
    clear HI
    go_wp2_with fail
    refine (WriteString_any _ _ _ t1 _ HI3.out HLN.out (by simp; omega)).mono ?_
    rintro e w2 ⟨rfl, hbd, hb2⟩
    have HI4 : Hid (Lib.IsBuilder 62 5 w.heap.size w.heap.size ((txts (T.take (k + 1))).map bv) w2) := by
      unfold Hid
      rw [← HN.out]
      exact .inr hbd
    have hbw2 : Below w.heap.size w w2 := (hbw.alloc hz _).trans hb2
    clear hbd hb2 HN HLN HI3
    go_wp2_with fail
    exact ⟨⟨k + 1, by omega, rfl, HI4, hbw2⟩, by simp [intOf]; omega⟩
end Go.Proofs.Ytmafggfonapmpaa
