/- What the bound on the bulk of what is read says of its parts: each string and each slice is short. Conditions: none. -/
import Derived.Test.YtgddhkanfcpipaaGreatDoorRows
import Derived.ProofKit
import Derived.Deep.Slices
namespace Go.Proofs.YtgddhkanfcpipaaGreatDoor
open Go.RowKit
set_option maxRecDepth 100000

/-- The datum's bulk is within the bound. -/
def WOk {H : Type} (_ : Program) (_ : TypeId) (d : DataW H) : Prop := Rows.uptoBulk d ≤ 1048576
theorem one_le {H : Type} (d : DataW H) : 1 ≤ Rows.uptoBulk d := by
  cases d with
  | lit l => cases l <;> simp [Rows.uptoBulk]
  | nil => simp [Rows.uptoBulk]
  | ptr d => simp [Rows.uptoBulk]
  | slice elems spare => simp [Rows.uptoBulk]
  | agg parts => simp [Rows.uptoBulk]
  | iface t d => simp [Rows.uptoBulk]
  | map entries => simp [Rows.uptoBulk]
  | held h => simp [Rows.uptoBulk]
theorem part_le {H : Type} {d : DataW H} : ∀ {l : List (DataW H)}, d ∈ l → Rows.uptoBulk d ≤ Rows.uptoBulkAll l
  | [], h => by cases h
  | x :: r, h => by
    rw [Rows.uptoBulkAll]
    rcases List.mem_cons.1 h with rfl | h
    · omega
    · have := part_le h; omega
theorem bulk_len {H : Type} : ∀ l : List (DataW H), l.length ≤ Rows.uptoBulkAll l
  | [] => by simp [Rows.uptoBulkAll]
  | x :: r => by
    rw [Rows.uptoBulkAll]
    have := one_le x
    have := bulk_len r
    simp only [List.length_cons]
    omega
theorem wok_string {H : Type} {P : Program} {t : TypeId} {bs : List UInt8} (h : WOk P t (.lit (.string bs) : DataW H)) : bs.length ≤ 1000000000 := by
  unfold WOk at h
  rw [Rows.uptoBulk] at h
  omega
theorem wok_struct {H : Type} {P : Program} {t : TypeId} {fs : Array Field} {ds : List (DataW H)} (_ : P.underlying t = some (.struct fs)) (h : WOk P t (.agg ds)) {i : Nat} {f : Field} {d : DataW H} (_ : fs[i]? = some f) (hd : ds[i]? = some d) : WOk P f.type d := by
  unfold WOk at h ⊢
  rw [Rows.uptoBulk] at h
  have := part_le (List.mem_of_getElem? hd)
  omega
theorem wok_slice {H : Type} {P : Program} {t e : TypeId} {es sp : List (DataW H)} (_ : P.underlying t = some (.slice e)) (h : WOk P t (.slice es sp)) : es.length + sp.length ≤ 1048576 ∧ ∀ d ∈ es, WOk P e d := by
  unfold WOk at h
  rw [Rows.uptoBulk] at h
  refine ⟨?_, fun d hd => ?_⟩
  · have := bulk_len es
    have := bulk_len sp
    omega
  · unfold WOk
    have := part_le hd
    omega
theorem wok_all {H : Type} {ds : List (DataW H)} (h : Rows.uptoSmall H ds = true) {P : Program} {t : TypeId} {d : DataW H} (hd : d ∈ ds) : WOk P t d := by
  unfold Rows.uptoSmall at h
  have h := of_decide_eq_true h
  have := part_le hd
  unfold WOk
  omega

/-- A slice that is read: its elements, with the fuel that is left. -/
theorem open_sliceN {H : Type} {enc : TypeId × Value → H} {P : Program} {w : World} {fuel : Nat} {t e : TypeId} {cs : List Value} {x : DataW H × List MemPlace} (ht : P.underlying t = some (.slice e))
    (h : DataW.trod enc P w 0 (fun _ => true) true fuel t cs = some x) (hw : WOk P t x.1) :
    cs = [.slice none 0 0] ∨
    ∃ (a : Addr) (len cap n : Nat), fuel = n + 1 ∧ cs = [.slice (some a) len cap] ∧ len ≤ cap ∧ cap ≤ maxLen ∧ cap ≤ 1048576 ∧
      ∀ i, i < len → ∃ cs' y, w.cells? 0 (a.add (i * P.cellsOf e)) (P.cellsOf e) = some cs' ∧ DataW.trod enc P w 0 (fun _ => true) true n e cs' = some y ∧ WOk P e y.1 := by
  rcases DataW.trod_slice ht h with ⟨h0, _⟩ | ⟨a, len, cap, elems, rest, n, hn, rfl, rfl, _, hl, hm, hlen, hel, hsp, _⟩
  · exact .inl h0
  right
  obtain ⟨hb, hall⟩ := wok_slice ht hw
  have hr := (hsp rfl).1
  rw [List.length_map, List.length_map, hlen, hr, show len + (cap - len) = cap by omega] at hb
  refine ⟨a, len, cap, n, hn, rfl, hl, hm, hb, fun i hi => ?_⟩
  have key := hel i hi
  rw [List.getElem?_eq_getElem (by omega)] at key
  obtain ⟨cs', h1, h2⟩ := Option.bind_eq_some_iff.1 key
  exact ⟨cs', _, h1, h2, hall _ (List.mem_map_of_mem (List.getElem_mem _))⟩
/-- A struct's fields. -/
theorem open_struct {H : Type} {enc : TypeId × Value → H} {P : Program} {w : World} {fuel : Nat} {t : TypeId} {fs : Array Field} {cs : List Value} {x : DataW H × List MemPlace} (ht : P.underlying t = some (.struct fs))
    (h : DataW.trod enc P w 0 (fun _ => true) true fuel t cs = some x) (hw : WOk P t x.1) :
    ∃ n, fuel = n + 1 ∧ cs.length = P.cellsOf t ∧ ∀ (i : Nat) (f : Field), fs[i]? = some f → ∃ y, DataW.trod enc P w 0 (fun _ => true) true n f.type ((cs.drop f.offset).take (P.cellsOf f.type)) = some y ∧ WOk P f.type y.1 := by
  obtain ⟨xs, n, hn, rfl, hlen, hx, hf⟩ := DataW.trod_struct ht h
  refine ⟨n, hn, hlen, fun i f hif => ?_⟩
  have hi : i < xs.length := by
    rw [hx]
    rcases Nat.lt_or_ge i fs.size with h | h
    · exact h
    · rw [Array.getElem?_eq_none h] at hif; cases hif
  have h1 := hf i f hif
  rw [List.getElem?_eq_getElem hi] at h1
  exact ⟨xs[i], h1, wok_struct ht hw hif (by simp [hi])⟩
theorem i64_of_wf {n : Int} (h : (Lit.int .i64 n).wf = true) : -9223372036854775808 ≤ n ∧ n ≤ 9223372036854775807 := by
  unfold Lit.wf at h
  rw [Bool.and_eq_true] at h
  exact ⟨of_decide_eq_true h.1, of_decide_eq_true h.2⟩
end Go.Proofs.YtgddhkanfcpipaaGreatDoor
