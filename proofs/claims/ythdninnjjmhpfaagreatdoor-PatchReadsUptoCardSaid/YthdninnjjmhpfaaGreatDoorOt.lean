/- Rows of one's own whose elements are themselves trees in memory. Conditions: none. -/
import Derived.Test.YthdninnjjmhpfaaGreatDoorOw
import Derived.Test.YthdninnjjmhpfaaGreatDoorTp
import Derived.Test.YthdninnjjmhpfaaGreatDoorTo
namespace Go.Proofs.YthdninnjjmhpfaaGreatDoor
open Go.RowKit
set_option maxRecDepth 100000
set_option maxHeartbeats 1000000

/-- A reading that is not touched by what becomes of other blocks. -/
structure Stb {α β : Type} (rd : World → (Nat → Prop) → β → α → Prop) : Prop where
  kept : ∀ {w w' : World} {S : Nat → Prop} {c : β} {x : α}, rd w S c x → (∀ b, S b → b < w.heap.size → w'.heap[b]? = w.heap[b]?) → w.heap.size ≤ w'.heap.size → rd w' (fun b => S b ∧ b < w.heap.size) c x
  mono : ∀ {w : World} {S T : Nat → Prop} {c : β} {x : α}, rd w S c x → (∀ b, S b → T b) → rd w T c x
/-- The row o of one's own reads as the list l. -/
def OwnT {α β : Type} (e : TypeId) (size : Nat) (cells : β → List Value) (rd : World → (Nat → Prop) → β → α → Prop) (w : World) (base : Nat) (o : Value) (l : List α) : Prop :=
  ∃ cs : List β, cs.length = l.length ∧ w.ownsRow base e size o l.length (cs.flatMap cells) ∧ ∀ i (h : i < l.length) (h' : i < cs.length), rd w (fun b => base ≤ b ∧ some b ≠ o.ownBlock) cs[i] l[i]
section
variable {α β : Type} {e : TypeId} {size : Nat} {cells : β → List Value} {rd : World → (Nat → Prop) → β → α → Prop}
theorem OwnT.nil {w : World} {base : Nat} : OwnT e size cells rd w base (.slice none 0 0) ([] : List α) :=
  ⟨[], rfl, World.ownsRow_nil _ _ _ _, fun _ h => absurd h (Nat.not_lt_zero _)⟩
theorem OwnT.blk {w : World} {base : Nat} {o : Value} {l : List α} (h : OwnT e size cells rd w base o l) : ∀ b, o.ownBlock = some b → b < w.heap.size := by
  obtain ⟨_, _, ho, _⟩ := h
  exact fun b hb => (ho.lt b hb).2
theorem OwnT.below (hs : Stb rd) {w w' : World} {base : Nat} {o : Value} {l : List α} (h : OwnT e size cells rd w base o l) (hb : Below w.heap.size w w') : OwnT e size cells rd w' base o l := by
  obtain ⟨cs, hc, hown, hrd⟩ := h
  exact ⟨cs, hc, own_below hown hb, fun i hi hi' => hs.mono (hs.kept (hrd i hi hi') (fun b _ hb' => hb.block b hb') hb.size) (fun b h => h.1)⟩
/-- One element more. -/
theorem OwnT.push (hs : Stb rd) {w w' : World} {base : Nat} {o o' : Value} {l : List α} {cs : List β} (hc : cs.length = l.length) (hrd : ∀ i (h : i < l.length) (h' : i < cs.length), rd w (fun b => base ≤ b ∧ some b ≠ o.ownBlock) cs[i] l[i])
    {c : β} {x : α} (hx : rd w (fun b => base ≤ b ∧ some b ≠ o.ownBlock) c x) (hown : w'.ownsRow base e size o' (l.length + 1) (cs.flatMap cells ++ cells c)) (hg : w.grownBy w' o.ownBlock) (hf : FreshRow w o o') : OwnT e size cells rd w' base o' (l ++ [x]) := by
  have key : ∀ {c x}, rd w (fun b => base ≤ b ∧ some b ≠ o.ownBlock) c x → rd w' (fun b => base ≤ b ∧ some b ≠ o'.ownBlock) c x := by
    intro c x h
    refine hs.mono (hs.kept h (fun b hb hb' => hg.block b hb' hb.2) hg.size) (fun b hb => ⟨hb.1.1, ?_⟩)
    rcases hf with hf | hf
    · rw [hf]; exact hb.1.2
    · intro h'
      have := hf b h'.symm
      have := hb.2
      omega
  refine ⟨cs ++ [c], by simp [hc], ?_, fun i hi hi' => ?_⟩
  · rw [List.length_append, List.flatMap_append]
    simpa using hown
  · rw [List.length_append] at hi hi'
    simp only [List.length_cons, List.length_nil] at hi hi'
    by_cases h : i < l.length
    · rw [List.getElem_append_left h, List.getElem_append_left (by omega)]
      exact key (hrd i h (by omega))
    · have : i = l.length := by omega
      subst this
      rw [List.getElem_append_right (by omega), List.getElem_append_right (by omega)]
      simp only [Nat.sub_self, hc, List.getElem_cons_zero]
      exact key hx
/-- The row as a slice that reads so. -/
theorem OwnT.sl (hs : Stb rd) (hz : ∀ c, (cells c).length = size) (d : β) {w : World} {base : Nat} {o : Value} {l : List α} (h : OwnT e size cells rd w base o l) (hl : l.length ≤ 140737488351232) :
    ∃ lc : Nat → β, Sl w o l.length size (fun i => cells (lc i)) ∧ (∀ i (h : i < l.length), rd w (fun b => base ≤ b) (lc i) l[i]) ∧ BlkIn (fun b => base ≤ b) o := by
  obtain ⟨cs, hc, hown, hrd⟩ := h
  refine ⟨fun i => cs.getD i d, ?_, fun i hi => ?_, BlkIn.of_own hown⟩
  · rw [← hc]
    rw [← hc] at hown
    exact Sl.of_own cells hz cs hown (by omega) _ (fun i hi => by dsimp only; rw [List.getD_eq_getElem?_getD, List.getElem?_eq_getElem hi]; rfl)
  · have h1 : cs.getD i d = cs[i] := by rw [List.getD_eq_getElem?_getD, List.getElem?_eq_getElem (by omega)]; rfl
    dsimp only
    rw [h1]
    exact hs.mono (hrd i hi (by omega)) (fun b h => h.1)
end
/-- Such a slice over a world in which its blocks are as they were. -/
theorem rows_kept {α β : Type} {size : Nat} {cells : β → List Value} {rd : World → (Nat → Prop) → β → α → Prop} (hs : Stb rd) {w w' : World} {base base' : Nat} {o : Value} {l : List α}
    (h : ∃ lc : Nat → β, Sl w o l.length size (fun i => cells (lc i)) ∧ (∀ i (h : i < l.length), rd w (fun b => base ≤ b) (lc i) l[i]) ∧ BlkIn (fun b => base ≤ b) o)
    (hk : ∀ b, base ≤ b → b < w.heap.size → w'.heap[b]? = w.heap[b]?) (hz : w.heap.size ≤ w'.heap.size) (hle : base' ≤ base) :
    ∃ lc : Nat → β, Sl w' o l.length size (fun i => cells (lc i)) ∧ (∀ i (h : i < l.length), rd w' (fun b => base' ≤ b) (lc i) l[i]) ∧ BlkIn (fun b => base' ≤ b) o := by
  obtain ⟨lc, h1, h2, h3⟩ := h
  exact ⟨lc, h1.kept h3 hk hz, fun i hi => hs.mono (hs.kept (h2 i hi) (fun b hb hb' => hk b hb hb') hz) (fun b hb => Nat.le_trans hle hb.1), h3.mono (fun b hb => Nat.le_trans hle hb)⟩
/-! Values. -/
theorem stbV : Stb RdI := ⟨fun h hk hz => h.lt.kept (fun b hb hb' => hk b hb.1 hb') hz, fun h hs => h.mono hs⟩
/-! Fields. -/
def fcells (x : ByteArray × VC) : List Value := .string x.1 :: x.2.cells
def RdF (w : World) (S : Nat → Prop) (c : ByteArray × VC) (x : ByteArray × V) : Prop := c.1 = x.1 ∧ x.1.size ≤ 1000000000 ∧ RdI w S c.2 x.2
theorem stbF : Stb RdF := ⟨fun h hk hz => ⟨h.1, h.2.1, stbV.kept h.2.2 hk hz⟩, fun h hs => ⟨h.1, h.2.1, h.2.2.mono hs⟩⟩
theorem fcells_len (x : ByteArray × VC) : (fcells x).length = 14 := rfl
/-- A value whose lists are rows of one's own. -/
theorem RdI.of_rows {w : World} {S : Nat → Prop} {h : Hd} {l : List V} {f : List (ByteArray × V)} {b lv fv : Value} (ok : HdOk h) (hb : RdB w b h.bytes) (sb : BlkIn S b)
    (hl : ∃ lc : Nat → VC, Sl w lv l.length 13 (fun i => (lc i).cells) ∧ (∀ i (h : i < l.length), RdI w S (lc i) l[i]) ∧ BlkIn S lv)
    (hf : ∃ fc : Nat → ByteArray × VC, Sl w fv f.length 14 (fun i => fcells (fc i)) ∧ (∀ i (h : i < f.length), RdF w S (fc i) f[i]) ∧ BlkIn S fv) : RdI w S ⟨h, b, lv, fv⟩ (.mk h l f) := by
  obtain ⟨lc, hl1, hl2, hl3⟩ := hl
  obtain ⟨fc, hf1, hf2, hf3⟩ := hf
  refine .mk h l f b lv fv lc (fun i => (fc i).2) ok hb hl1 hl2 ?_ (fun i hi => (hf2 i hi).2.1) (fun i hi => (hf2 i hi).2.2) sb hl3 hf3
  obtain ⟨a, cap, e1, e2, e3, e4, e5⟩ := hf1
  refine ⟨a, cap, e1, e2, e3, e4, fun hn => ?_⟩
  obtain ⟨g, o, e6, e7, e8⟩ := e5 hn
  refine ⟨g, o, e6, e7, fun i hi j hj => ?_⟩
  rw [e8 i hi j hj]
  have h1 := (hf2 i hi).1
  have h2 : (f.getD i ((⟨#[]⟩ : ByteArray), V.mk h l f)).1 = f[i].1 := by rw [List.getD_eq_getElem?_getD, List.getElem?_eq_getElem hi]; rfl
  dsimp only
  rw [h2]
  unfold fcells
  rw [h1]
end Go.Proofs.YthdninnjjmhpfaaGreatDoor
