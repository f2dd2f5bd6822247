/- strconv.ParseUint at base 16, of one or two bytes. Conditions: the variables of strconv read as laid. -/
import Derived.Test.YthdninnjjmhpfaaGreatDoorWr1
import Derived.Test.YthdninnjjmhpfaaGreatDoorNp5
import Derived.Test.YthdninnjjmhpfaaGreatDoorZrd1
import Derived.Deep.RegionHeld3
import Derived.Test.YthdninnjjmhpfaaGreatDoorTm
import Derived.Deep.QuietTactic
import Derived.BigQuiet
import Derived.WalkSpells
import Derived.WalkLawsBesides
import Derived.Test.YthdninnjjmhpfaaGreatDoorPa1
import Derived.Test.YthdninnjjmhpfaaGreatDoorPs2
namespace Go.Proofs.YthdninnjjmhpfaaGreatDoor
open Go.RowKit
set_option maxHeartbeats 1000000
set_option maxRecDepth 100000

abbrev hdK (k : Int) : Hd := ⟨k, false, false, ⟨#[]⟩, 0, 0, 0, 0, 0, ⟨#[]⟩, []⟩
theorem okK (k : Int) (hk : I64 k) : HdOk (hdK k) := ⟨hk, i64_0, i64_0, i64_0, i64_0, i64_0, emp_le, emp_le, Nat.zero_le _⟩
def vT (s : ByteArray) : V := .mk (hdT s) [] []
def intR (n : Int) : DecR := normL false (numL n.toNat) 0
def vI (n : Int) : V := .mk (hdN (intR n).neg ⟨(intR n).ds.toArray⟩ (intR n).e) [] []
/-- The names of the fields. -/
def kOp : ByteArray := ⟨#[111, 112]⟩
def kPath : ByteArray := ⟨#[112, 97, 116, 104]⟩
def kAt : ByteArray := ⟨#[97, 116]⟩
def kOld : ByteArray := ⟨#[111, 108, 100]⟩
def kNew : ByteArray := ⟨#[110, 101, 119]⟩
def keyB (x : Ch) : Bool := movB x.op && lastK x.p
def wr2 (x : Ch) : List (ByteArray × V) := [(kOp, vT (nameS x.op)), (kPath, vT ⟨(textL x.p).toArray⟩)]
def wr3 (x : Ch) : List (ByteArray × V) := wr2 x ++ if keyB x = true then [(kAt, vI x.pos)] else []
def wr4 (x : Ch) : List (ByteArray × V) := wr3 x ++ if oldB x.op = true then [(kOld, x.o)] else []
def wr5 (x : Ch) : List (ByteArray × V) := wr4 x ++ if newB x.op = true then [(kNew, x.n)] else []
def wrV (x : Ch) : V := .mk (hdK 7) [] (wr5 x)
def wrL (xs : List Ch) : V := .mk (hdK 6) (xs.map wrV) []
def v0 : V := .mk (hdK 0) [] []
/-- What Write answers. -/
def wrR (xs : List Ch) : V × Nat := if (firstL xs).2 ≠ 0 then (v0, (firstL xs).2) else if checkV (wrL xs) ≠ 0 then (v0, checkV (wrL xs)) else (wrL xs, 0)

/-- The row o of one's own reads as the list l, whose elements lie in blocks of T, not in the row's own. -/
def OwnN {α β : Type} (e : TypeId) (size : Nat) (cells : β → List Value) (rd : World → (Nat → Prop) → β → α → Prop) (T : Nat → Prop) (w : World) (base : Nat) (o : Value) (l : List α) : Prop :=
  ∃ cs : List β, cs.length = l.length ∧ w.ownsRow base e size o l.length (cs.flatMap cells) ∧ ∀ i (h : i < l.length) (h' : i < cs.length), rd w (fun b => T b ∧ some b ≠ o.ownBlock) cs[i] l[i]
section
variable {α β : Type} {e : TypeId} {size : Nat} {cells : β → List Value} {rd : World → (Nat → Prop) → β → α → Prop} {T : Nat → Prop}
theorem OwnN.nil {w : World} {base : Nat} : OwnN e size cells rd T w base (.slice none 0 0) ([] : List α) :=
  ⟨[], rfl, World.ownsRow_nil _ _ _ _, fun _ h => absurd h (Nat.not_lt_zero _)⟩
theorem OwnN.blk {w : World} {base : Nat} {o : Value} {l : List α} (h : OwnN e size cells rd T w base o l) : ∀ b, o.ownBlock = some b → base ≤ b ∧ b < w.heap.size := by
  obtain ⟨_, _, ho, _⟩ := h
  exact fun b hb => ho.lt b hb
theorem OwnN.below (hs : Stb rd) {w w' : World} {base : Nat} {o : Value} {l : List α} (h : OwnN e size cells rd T w base o l) (hb : Below w.heap.size w w') : OwnN e size cells rd T w' base o l := by
  obtain ⟨cs, hc, hown, hrd⟩ := h
  exact ⟨cs, hc, own_below hown hb, fun i hi hi' => hs.mono (hs.kept (hrd i hi hi') (fun b _ hb' => hb.block b hb') hb.size) (fun b h => h.1)⟩
/-- A store into another block. -/
theorem OwnN.set (hs : Stb rd) {w w' : World} {base g : Nat} {o : Value} {l : List α} (h : OwnN e size cells rd T w base o l) (hg : w.grownBy w' (some g)) (hb : g < base) (hT : ¬ T g) : OwnN e size cells rd T w' base o l := by
  obtain ⟨cs, hc, hown, hrd⟩ := h
  refine ⟨cs, hc, hown.kept hg ?_, fun i hi hi' => hs.mono (hs.kept (hrd i hi hi') (fun b hbT hb' => hg.block b hb' (fun he => ?_)) hg.size) (fun b h => h.1)⟩
  · cases ho : o.ownBlock with
    | none => exact .inl rfl
    | some k =>
      refine .inr (fun he => ?_)
      have := (hown.lt k ho).1
      simp only [Option.some.injEq] at he
      omega
  · simp only [Option.some.injEq] at he
    subst he
    exact hT hbT.1
theorem OwnN.push (hs : Stb rd) {w w' : World} {base : Nat} {o o' : Value} {l : List α} {cs : List β} (hc : cs.length = l.length) (hrd : ∀ i (h : i < l.length) (h' : i < cs.length), rd w (fun b => T b ∧ some b ≠ o.ownBlock) cs[i] l[i])
    {c : β} {x : α} (hx : rd w (fun b => T b ∧ some b ≠ o.ownBlock) c x) (hown : w'.ownsRow base e size o' (l.length + 1) (cs.flatMap cells ++ cells c)) (hg : ∀ b, T b → b < w.heap.size → some b ≠ o.ownBlock → w'.heap[b]? = w.heap[b]?) (hz : w.heap.size ≤ w'.heap.size) (hf : FreshRow w o o') : OwnN e size cells rd T w' base o' (l ++ [x]) := by
  have key : ∀ {c x}, rd w (fun b => T b ∧ some b ≠ o.ownBlock) c x → rd w' (fun b => T b ∧ some b ≠ o'.ownBlock) c x := by
    intro c x h
    refine hs.mono (hs.kept h (fun b hb hb' => hg b hb.1 hb' hb.2) hz) (fun b hb => ⟨hb.1.1, ?_⟩)
    rcases hf with hf | hf
    · rw [hf]; exact hb.1.2
    · intro h'
      have := hf b h'.symm
      have := hb.2
      omega
  refine ⟨cs ++ [c], by simp [hc], ?_, fun i hi hi' => ?_⟩
  · rw [List.length_append, List.flatMap_append]
    simpa using hown
  · rw [List.length_append] at hi hi'
    simp only [List.length_cons, List.length_nil] at hi hi'
    by_cases h : i < l.length
    · rw [List.getElem_append_left h, List.getElem_append_left (by omega)]
      exact key (hrd i h (by omega))
    · have : i = l.length := by omega
      subst this
      rw [List.getElem_append_right (by omega), List.getElem_append_right (by omega)]
      simp only [Nat.sub_self, hc, List.getElem_cons_zero]
      exact key hx
theorem OwnN.sl (hs : Stb rd) (hz : ∀ c, (cells c).length = size) (d : β) {w : World} {base : Nat} {o : Value} {l : List α} (h : OwnN e size cells rd T w base o l) (hl : l.length ≤ 140737488351232) {S : Nat → Prop} (hT : ∀ b, T b → S b) (hB : ∀ b, base ≤ b → b < w.heap.size → S b) :
    ∃ lc : Nat → β, Sl w o l.length size (fun i => cells (lc i)) ∧ (∀ i (h : i < l.length), rd w S (lc i) l[i]) ∧ BlkIn S o := by
  obtain ⟨cs, hc, hown, hrd⟩ := h
  refine ⟨fun i => cs.getD i d, ?_, fun i hi => ?_, ?_⟩
  · rw [← hc]
    rw [← hc] at hown
    exact Sl.of_own cells hz cs hown (by omega) _ (fun i hi => by dsimp only; rw [List.getD_eq_getElem?_getD, List.getElem?_eq_getElem hi]; rfl)
  · have h1 : cs.getD i d = cs[i] := by rw [List.getD_eq_getElem?_getD, List.getElem?_eq_getElem (by omega)]; rfl
    dsimp only
    rw [h1]
    exact hs.mono (hrd i hi (by omega)) (fun b h => hT b h.1)
  · intro g q p n cap hv _
    have := hown.lt g (by rw [hv]; rfl)
    exact hB g this.1 this.2
end
/-- Not the box, and either old or behind it. -/
abbrev TB (B g : Nat) (b : Nat) : Prop := b < B ∨ g < b
/-- The block g holds a map whose fields are the row F. -/
def MapAt (w : World) (g B : Nat) (F : Value) (fl : List (ByteArray × V)) : Prop :=
  w.heap[g]? = some (.cells (VC.cells ⟨hdK 7, .slice none 0 0, .slice none 0 0, F⟩).toArray 30 (0, 0)) ∧ OwnN 67 14 fcells RdF (TB B g) w (g + 1) F fl
theorem MapAt.lt {w : World} {g B : Nat} {F : Value} {fl : List (ByteArray × V)} (h : MapAt w g B F fl) : g < w.heap.size := by
  rcases Nat.lt_or_ge g w.heap.size with h' | h'
  · exact h'
  · have := h.1
    rw [Array.getElem?_eq_none h'] at this
    cases this
theorem MapAt.below {w w' : World} {g B : Nat} {F : Value} {fl : List (ByteArray × V)} (h : MapAt w g B F fl) (hb : Below w.heap.size w w') : MapAt w' g B F fl :=
  ⟨(hb.block g h.lt).trans h.1, h.2.below stbF hb⟩
/-- The map, read. -/
theorem MapAt.rd {w : World} {g B : Nat} {F : Value} {fl : List (ByteArray × V)} (h : MapAt w g B F fl) (hl : fl.length ≤ 140737488351232) {S : Nat → Prop} (hT : ∀ b, TB B g b → S b) : RdI w S ⟨hdK 7, .slice none 0 0, .slice none 0 0, F⟩ (.mk (hdK 7) [] fl) := by
  have nb : ∀ S : Nat → Prop, BlkIn S (.slice none 0 0) := fun S g o p n cap hv _ => by cases hv
  obtain ⟨fc, h1, h2, h3⟩ := h.2.sl stbF fcells_len (⟨#[]⟩, ⟨hdK 0, .slice none 0 0, .slice none 0 0, .slice none 0 0⟩) hl (S := S) hT (fun b hb _ => hT b (.inr hb))
  exact RdI.of_rows (okK 7 ⟨by decide, by decide⟩) Sl.nil (nb _) ⟨fun _ => ⟨hdK 0, .slice none 0 0, .slice none 0 0, .slice none 0 0⟩, Sl.nil, fun i hi => absurd hi (Nat.not_lt_zero _), nb _⟩ ⟨fc, h1, h2, h3⟩
end Go.Proofs.YthdninnjjmhpfaaGreatDoor

namespace Go.Proofs.YthdninnjjmhpfaaGreatDoor
open Go.RowKit
set_option maxHeartbeats 4000000
set_option maxRecDepth 100000

def hdV : V → Hd
  | .mk h _ _ => h
def flV : V → List (ByteArray × V)
  | .mk _ _ f => f
/-- The value of a field. -/
def fieldF (key : ByteArray) : List (ByteArray × V) → Option V
  | [] => none
  | (k, x) :: t => if k = key then some x else fieldF key t
theorem fieldF_drop (key : ByteArray) (f : List (ByteArray × V)) (k : Nat) (h : k < f.length) : fieldF key (f.drop k) = if f[k].1 = key then some f[k].2 else fieldF key (f.drop (k + 1)) := by
  rw [List.drop_eq_getElem_cons h, fieldF]
def FdPost (w : World) (S : Nat → Prop) (o : Option V) (e : Ending) (w' : World) : Prop := ∃ c, e = .returned (.tuple #[aggV c, .bool o.isSome]) ∧ RdI w' S c (o.getD v0) ∧ Below w.heap.size w w'
abbrev c0F : VC := ⟨hdK 0, .slice none 0 0, .slice none 0 0, .slice none 0 0⟩
theorem v0_rdF (w : World) (S : Nat → Prop) : RdI w S c0F v0 := leaf_rd (hdK 0) (okK 0 i64_0) rfl w S
theorem VField_any (key : ByteArray) (v : V) (c : VC) (w : World) (hn : nodV v ≤ 1000000) (hd : depV v ≤ 65536) (hv : RdV w c v) (hk : c.h.kind = 7) :
    Calls Tryz.prog 68 #[aggV c, .string key] w (FdPost w (fun b => w.heap.size ≤ b) (fieldF key (flV v))) := by
  have HONEv := Lib.hid (vc_one hv)
  cases hv with
  | mk h l f bv lv fv lc fc ok hB hl hL hf hK hF _ _ _ =>
  obtain ⟨r, hr⟩ : ∃ r, r = fieldF key f := ⟨_, rfl⟩
  show Calls _ _ _ _ (FdPost w _ (fieldF key f))
  rw [← hr]
  rw [nodV_mk] at hn
  rw [depV_mk] at hd
  obtain ⟨fa, fcap, rfl, hf1, ⟨hf2, _⟩, hf3, hf4⟩ := hf
  have HFS := Lib.hid hf4
  have HFi := Lib.hid hF
  have HNF := Lib.hid (nodF_at f)
  have HDF := Lib.hid (depF_at f)
  obtain ⟨a0, a1, a2, a3, a4, a5, a6, a7, a8, a9, a10⟩ := h
  obtain rfl : a0 = 7 := hk
  have HR0 : Hid (r = fieldF key (f.drop 0)) := hr
  clear hf4 hF hK hB hl hL hr ok hf3
  go_enter Tryz.func68, Tryz.ntmps68
  go_wp2_with fail
  generalize hW1 : World.alloc w _ = w1
  obtain ⟨ha1, -, hz1, hb1⟩ := alloc_of hW1
  generalize hW2 : World.alloc w1 _ = wm
  obtain ⟨ha2, -, hz2, hb2⟩ := alloc_of hW2
  have HVX : Hid (wm.heap[w.heap.size]? = some (.cells (VC.cells ⟨⟨7, a1, a2, a3, a4, a5, a6, a7, a8, a9, a10⟩, bv, lv, .slice fa f.length fcap⟩).toArray 30 (0, 0))) := (hb2.block _ (by omega)).trans ha1
  have HRX : Hid (wm.heap[w.heap.size + 1]? = some (.cells (VC.cells c0F).toArray 30 (0, 0))) := by rw [← hz1]; exact ha2
  have HBM : Hid (Below w.heap.size w wm) := hb1.trans (hb2.mono (by omega))
  have HZM : Hid (wm.heap.size = w.heap.size + 2) := by unfold Hid; omega
  clear hW1 hW2 ha1 ha2 hb1 hb2 hz1 hz2
  obtain ⟨⟨x0, -, -, -, -, -, -, -, -, -, -, -, x12⟩, -⟩ := box13 HVX.out
  go_wp2_with fail
  clear x0 x12
  go_loopw [11] (fun iv wr => ∃ k : Nat, k ≤ f.length ∧ iv = .int .i64 k ∧ Hid (r = fieldF key (f.drop k)) ∧ Hid (Below wm.heap.size wm wr)) (fun iv _ => f.length - (intOf iv).toNat)
  case atStart => exact ⟨0, Nat.zero_le _, rfl, HR0.out, Below.refl _ _⟩
  case round =>
    clear HR0
    obtain ⟨k, hk, rfl, HR, HB⟩ := hrel
    by_cases hlt : k < f.length
    case neg =>
      have HF : Hid (r = none) := by unfold Hid; rw [HR.out, List.drop_of_length_le (by omega), fieldF]
      clear HR
      have HX4 := Lib.hid ((HB.out.block _ (by rw [HZM.out]; omega)).trans HRX.out)
      have HONE0 := Lib.hid (vc_one (v0_rdF w (fun _ => True)))
      go_wp2_with (refine wpl_store rfl rfl stVk.2 rfl rfl (cs := VC.cells c0F) rfl (cells_len _) HONE0.out HX4.out (Nat.le_refl 13) (row := VC.cells c0F) rfl ?_; generalize hW3 : World.setRow _ _ _ = w5; obtain ⟨hd3, hk3, hz3, hb3⟩ := setRow_of hW3 HX4.out; clear hW3)
      obtain ⟨⟨z0, z1, z2, z3, z4, z5, z6, z7, z8, z9, z10, z11, z12⟩, zf⟩ := box13 hd3
      exact bodyPost_ret (v := .tuple #[aggV c0F, .bool false]) (by simp [results, Tryz.results68, go_sem, z0, z1, z2, z3, z4, z5, z6, z7, z8, z9, z10, z11, z12]) rfl ⟨c0F, by rw [HF.out]; rfl, by rw [HF.out]; exact v0_rdF _ _, (HBM.out.trans (HB.out.mono (by rw [HZM.out]; omega))).trans (hb3 _ (by omega))⟩
    obtain ⟨g, o, rfl, hg, hat⟩ := HFS.out (by omega)
    have hrd := HFi.out k hlt
    have HS := HR.out
    rw [fieldF_drop key f k hlt] at HS
    replace HS := Lib.hid HS
    have hfk : (f.getD k (⟨#[]⟩, V.mk ⟨7, a1, a2, a3, a4, a5, a6, a7, a8, a9, a10⟩ l f)).1 = f[k].1 := by rw [List.getD_eq_getElem?_getD, List.getElem?_eq_getElem hlt]; rfl
    have hn1 := HNF.out k hlt
    have hd1 := HDF.out k hlt
    have hww : Below w.heap.size w wr := HBM.out.trans (HB.out.mono (by rw [HZM.out]; omega))
    have hc14 : Hid (∀ j, j < 14 → wr.cell? ⟨g, o + k * 14 + j, none⟩ = (Value.string f[k].1 :: (fc k).cells)[j]?) := fun j hj => by rw [← hfk]; exact (hww.cell hg).trans (hat k hlt j hj)
    have HONEc : Hid (∀ u ∈ Value.string f[k].1 :: (fc k).cells, u.oneCell' = true) := fun u hu => by
      rcases List.mem_cons.1 hu with rfl | hu
      · rfl
      · exact vc_one hrd u hu
    have HRD := Lib.hid (hrd.stays hww)
    clear hat hfk hrd HR hww
    generalize f[k] = fx at *
    obtain ⟨kx, vx⟩ := fx
    dsimp only at hn1 hd1
    generalize fc k = cx at *
    obtain ⟨⟨x0, -, -, -, -, -, -, -, -, -, -, -, -⟩, -⟩ := box13 ((HB.out.block _ (by rw [HZM.out]; omega)).trans HVX.out)
    have hzx : w.heap.size < wr.heap.size := by have := HB.out.size; have := HZM.out; omega
    by_cases hkey : kx = key
    case pos =>
      subst hkey
      have HF : Hid (r = some vx) := by unfold Hid; rw [HS.out, if_pos rfl]
      clear HS
      go_wp2_with (first
        | refine wpl_load rfl rfl stFk rfl (by rw [List.length_cons, cells_len]) hc14.out ?_
        | (refine wpl_new rfl rfl stFk rfl (cs := Value.string kx :: cx.cells) rfl (by rw [List.length_cons, cells_len]) HONEc.out rfl rfl rfl ?_; generalize hW1 : World.alloc wr _ = w1; obtain ⟨ha1, _, hz1, hb1⟩ := alloc_of' hW1; have HA1 := Lib.hid ha1; have HB1 := Lib.hid hb1; have y0 := (hb1.cell (p := ⟨w.heap.size, 0, none⟩) hzx).trans x0; have yk : w1.cell? ⟨wr.heap.size, 0, none⟩ = some (.string kx) := cell_of_row _ _ _ _ _ _ ha1; clear hW1 ha1 hb1)
        | refine wpl_load rfl rfl stVk rfl (cells_len cx) (fun j _ => by rw [cell_of_row _ _ _ _ _ _ HA1.out, List.getElem?_toArray, Nat.add_comm 1 j, List.getElem?_cons_succ]) ?_)
      refine (copied_any _ vx cx w1 65536 (Nat.le_refl _) (by omega) (by omega) (by omega) (HRD.out.stays HB1.out)).mono ?_
      rintro e w2 ⟨c2, rfl, hr2, hb2⟩
      have HX4 := Lib.hid ((hb2.block _ (by have := HB1.out.size; have := HZM.out; omega)).trans ((HB1.out.block _ (by have := HB.out.size; have := HZM.out; omega)).trans ((HB.out.block _ (by rw [HZM.out]; omega)).trans HRX.out)))
      have HBB := Lib.hid (((HBM.out.trans (HB.out.mono (by rw [HZM.out]; omega))).trans (HB1.out.mono (by omega))).trans (hb2.mono (by have := HB1.out.size; omega)))
      have HONE2 := Lib.hid (vc_one hr2.any)
      have HR2 : Hid (RdI w2 (fun b => w.heap.size + 1 < b) c2 vx) := hr2.mono fun b hb => by have := HB1.out.size; have := HB.out.size; have := HZM.out; omega
      clear hb2 hr2 HB1 HA1 yk y0
      go_wp2_with (refine wpl_store rfl rfl stVk.2 rfl rfl (cs := VC.cells c2) rfl (cells_len _) HONE2.out HX4.out (Nat.le_refl 13) (row := VC.cells c2) (by rw [List.take_zero, List.nil_append, List.drop_of_length_le (by decide), List.append_nil]) ?_; generalize hW3 : World.setRow _ _ _ = w5; obtain ⟨hd3, hk3, hz3, hb3⟩ := setRow_of hW3 HX4.out; clear hW3)
      obtain ⟨⟨z0, z1, z2, z3, z4, z5, z6, z7, z8, z9, z10, z11, z12⟩, zf⟩ := box13 hd3
      exact bodyPost_ret (v := .tuple #[aggV c2, .bool true]) (by simp [results, Tryz.results68, go_sem, z0, z1, z2, z3, z4, z5, z6, z7, z8, z9, z10, z11, z12]) rfl ⟨c2, by rw [HF.out]; rfl, by rw [HF.out]; exact (HR2.out.kept (fun b hb _ => hk3 b (by omega)) (by omega)).mono (fun b hb => by omega), HBB.out.trans (hb3 _ (by omega))⟩
    case neg =>
      have hq : (kx.toList == key.toList) = false := by
        rw [beq_eq_false_iff_ne]
        intro h
        rw [toList_L, toList_L] at h
        exact hkey (L_inj h)
      have HF : Hid (r = fieldF key (f.drop (k + 1))) := by unfold Hid; rw [HS.out, if_neg hkey]
      clear HS hkey
      go_wp2_with (first
        | refine wpl_load rfl rfl stFk rfl (by rw [List.length_cons, cells_len]) hc14.out ?_
        | (refine wpl_new rfl rfl stFk rfl (cs := Value.string kx :: cx.cells) rfl (by rw [List.length_cons, cells_len]) HONEc.out rfl rfl rfl ?_; generalize hW1 : World.alloc wr _ = w1; obtain ⟨ha1, _, hz1, hb1⟩ := alloc_of' hW1; have HB1 := Lib.hid hb1; have y0 := (hb1.cell (p := ⟨w.heap.size, 0, none⟩) hzx).trans x0; have yk : w1.cell? ⟨wr.heap.size, 0, none⟩ = some (.string kx) := cell_of_row _ _ _ _ _ _ ha1; clear hW1 ha1 hb1))
      exact ⟨⟨k + 1, by omega, rfl, HF, HB.out.trans (HB1.out.mono HB.out.size)⟩, by simp [intOf]; omega⟩
theorem RField_any (key : ByteArray) (v : V) (c : VC) (w : World) (S : Nat → Prop) (hS : S (w.heap.size + 1) → False) (hv : RdI w S c v) :
    Calls Tryz.prog 72 #[aggV c, .string key] w (FdPost w S (fieldF key (flV v))) := by
  cases hv with
  | mk h l f bv lv fv lc fc ok hB hl hL hf hK hF _ _ _ =>
  obtain ⟨r, hr⟩ : ∃ r, r = fieldF key f := ⟨_, rfl⟩
  show Calls _ _ _ _ (FdPost w _ (fieldF key f))
  rw [← hr]
  obtain ⟨fa, fcap, rfl, hf1, ⟨hf2, _⟩, hf3, hf4⟩ := hf
  have HFS := Lib.hid hf4
  have HFi := Lib.hid hF
  obtain ⟨a0, a1, a2, a3, a4, a5, a6, a7, a8, a9, a10⟩ := h
  have HR0 : Hid (r = fieldF key (f.drop 0)) := hr
  clear hf4 hF hK hB hl hL hr ok hf3
  go_enter Tryz.func72, Tryz.ntmps72
  go_wp2_with fail
  generalize hW1 : World.alloc w _ = w1
  obtain ⟨ha1, -, hz1, hb1⟩ := alloc_of hW1
  generalize hW2 : World.alloc w1 _ = wm
  obtain ⟨ha2, -, hz2, hb2⟩ := alloc_of hW2
  have HVX : Hid (wm.heap[w.heap.size]? = some (.cells (VC.cells ⟨⟨a0, a1, a2, a3, a4, a5, a6, a7, a8, a9, a10⟩, bv, lv, .slice fa f.length fcap⟩).toArray 30 (0, 0))) := (hb2.block _ (by omega)).trans ha1
  have HRX : Hid (wm.heap[w.heap.size + 1]? = some (.cells (VC.cells c0F).toArray 30 (0, 0))) := by rw [← hz1]; exact ha2
  have HBM : Hid (Below w.heap.size w wm) := hb1.trans (hb2.mono (by omega))
  have HZM : Hid (wm.heap.size = w.heap.size + 2) := by unfold Hid; omega
  clear hW1 hW2 ha1 ha2 hb1 hb2 hz1 hz2
  go_wp2_with fail
  go_loopw [6] (fun iv wr => ∃ k : Nat, k ≤ f.length ∧ iv = .int .i64 k ∧ Hid (r = fieldF key (f.drop k)) ∧ Hid (Below wm.heap.size wm wr)) (fun iv _ => f.length - (intOf iv).toNat)
  case atStart => exact ⟨0, Nat.zero_le _, rfl, HR0.out, Below.refl _ _⟩
  case round =>
    clear HR0
    obtain ⟨k, hk, rfl, HR, HB⟩ := hrel
    obtain ⟨⟨-, -, -, -, -, -, -, -, -, -, -, -, x12⟩, -⟩ := box13 ((HB.out.block _ (by rw [HZM.out]; omega)).trans HVX.out)
    by_cases hlt : k < f.length
    case neg =>
      have HF : Hid (r = none) := by unfold Hid; rw [HR.out, List.drop_of_length_le (by omega), fieldF]
      clear HR
      have HX4 := Lib.hid ((HB.out.block _ (by rw [HZM.out]; omega)).trans HRX.out)
      have HONE0 := Lib.hid (vc_one (v0_rdF w (fun _ => True)))
      go_wp2_with (refine wpl_store rfl rfl stVk.2 rfl rfl (cs := VC.cells c0F) rfl (cells_len _) HONE0.out HX4.out (Nat.le_refl 13) (row := VC.cells c0F) rfl ?_; generalize hW3 : World.setRow _ _ _ = w5; obtain ⟨hd3, hk3, hz3, hb3⟩ := setRow_of hW3 HX4.out; clear hW3)
      obtain ⟨⟨z0, z1, z2, z3, z4, z5, z6, z7, z8, z9, z10, z11, z12⟩, zf⟩ := box13 hd3
      exact bodyPost_ret (v := .tuple #[aggV c0F, .bool false]) (by simp [results, Tryz.results72, go_sem, z0, z1, z2, z3, z4, z5, z6, z7, z8, z9, z10, z11, z12]) rfl ⟨c0F, by rw [HF.out]; rfl, by rw [HF.out]; exact v0_rdF _ _, (HBM.out.trans (HB.out.mono (by rw [HZM.out]; omega))).trans (hb3 _ (by omega))⟩
    obtain ⟨g, o, rfl, hg, hat⟩ := HFS.out (by omega)
    have hrd := HFi.out k hlt
    have HS := HR.out
    rw [fieldF_drop key f k hlt] at HS
    replace HS := Lib.hid HS
    have hfk : (f.getD k (⟨#[]⟩, V.mk ⟨a0, a1, a2, a3, a4, a5, a6, a7, a8, a9, a10⟩ l f)).1 = f[k].1 := by rw [List.getD_eq_getElem?_getD, List.getElem?_eq_getElem hlt]; rfl
    have hww : Below w.heap.size w wr := HBM.out.trans (HB.out.mono (by rw [HZM.out]; omega))
    have yk : wr.cell? ⟨g, o + k * 14, none⟩ = some (.string f[k].1) := by
      have h0 := (hww.cell hg).trans (hat k hlt 0 (by decide))
      rw [hfk] at h0
      exact h0
    have hc13 : Hid (∀ j, j < 13 → wr.cell? ⟨g, o + k * 14 + 1 + j, none⟩ = (fc k).cells[j]?) := fun j hj => by
      have := (hww.cell hg).trans (hat k hlt (1 + j) (by omega))
      rw [Nat.add_assoc]
      rw [this, Nat.add_comm 1 j, List.getElem?_cons_succ]
    have HRD := Lib.hid (hrd.stays hww)
    have HBB := Lib.hid hww
    have HONE2 := Lib.hid (vc_one hrd.any)
    clear hat hfk hrd HR hww
    generalize f[k] = fx at *
    obtain ⟨kx, vx⟩ := fx
    dsimp only at yk
    generalize fc k = cx at *
    have hk0 : (0 : Int) ≤ (k : Int) := by omega
    by_cases hkey : kx = key
    case pos =>
      subst hkey
      have HF : Hid (r = some vx) := by unfold Hid; rw [HS.out, if_pos rfl]
      clear HS
      have HX4 := Lib.hid ((HB.out.block _ (by rw [HZM.out]; omega)).trans HRX.out)
      go_wp2_with (first
        | refine wpl_load rfl rfl stVk rfl (cells_len cx) hc13.out ?_
        | (refine wpl_store rfl rfl stVk.2 rfl rfl (cs := VC.cells cx) rfl (cells_len _) HONE2.out HX4.out (Nat.le_refl 13) (row := VC.cells cx) (by rw [List.take_zero, List.nil_append, List.drop_of_length_le (by decide), List.append_nil]) ?_; generalize hW3 : World.setRow _ _ _ = w5; obtain ⟨hd3, hk3, hz3, hb3⟩ := setRow_of hW3 HX4.out; clear hW3))
      obtain ⟨⟨z0, z1, z2, z3, z4, z5, z6, z7, z8, z9, z10, z11, z12⟩, zf⟩ := box13 hd3
      exact bodyPost_ret (v := .tuple #[aggV cx, .bool true]) (by simp [results, Tryz.results72, go_sem, z0, z1, z2, z3, z4, z5, z6, z7, z8, z9, z10, z11, z12]) rfl ⟨cx, by rw [HF.out]; rfl, by rw [HF.out]; exact (HRD.out.kept (fun b hb _ => hk3 b (fun h => hS (h ▸ hb))) (by omega)), HBB.out.trans (hb3 _ (by omega))⟩
    case neg =>
      have hq : (kx.toList == key.toList) = false := by
        rw [beq_eq_false_iff_ne]
        intro h
        rw [toList_L, toList_L] at h
        exact hkey (L_inj h)
      have HF : Hid (r = fieldF key (f.drop (k + 1))) := by unfold Hid; rw [HS.out, if_neg hkey]
      clear HS hkey
      go_wp2_with fail
      exact ⟨⟨k + 1, by omega, rfl, HF, HB.out⟩, by simp [intOf]; omega⟩
end Go.Proofs.YthdninnjjmhpfaaGreatDoor

namespace Go.Proofs.YthdninnjjmhpfaaGreatDoor
open Go.RowKit
set_option maxHeartbeats 4000000
set_option maxRecDepth 100000

section
variable {P : Program} {ops : Array Oper} {o : Oper} {a : Act} {w : World} {S : World → Prop}
theorem yl_load {ty : TypeId} {m : Nat} {cs : List Value} (ht : StT P ty m) (hm : cs.length = m) (g off : Nat) (hc : ∀ w, S w → ∀ j, j < m → w.cell? ⟨g, off + j, none⟩ = cs[j]?) (hw : Region.wanted o (yielded ops a.tmps) = true) (x : Operand) (ho : o.op = .load ty x) (hx : a.eval x = .pointer (some ⟨g, off, none⟩)) :
    YieldsIf P ops S o (.agg cs.toArray) a := by
  refine .inl ⟨hw, fun w hS => ?_⟩
  unfold execOp
  simp only [ho, hx, Instr.loadAt, Instr.sureAddr, Sem.run_bind, Sem.run_pure, Result.andThen_ok, run_load_cells ht hm (addr_cells hm (hc w hS))]
theorem take_at {Q : Exit → Act → World → Prop} {md : Region.Mode} {oi : Oper} {v : Value} {fuel : Nat} {listed : Array Bool} (i : Nat) (d : Option Tmp) (hi : ops[i]? = some oi) (hd : oi.dst = d) (hs : Region.noSelect ops = true) (hf : Region.free md ops listed i = true) (hr : (Region.ready md ops listed).contains i = true)
    (hQ : ∀ c a w, Q (.panic c) (a.put d v) w → Q (.panic c) a w) (hy : YieldsIf P ops S oi v a) (hS : S w) (h : wpAnyH P md ops Q S fuel (listed.setIfInBounds i true) (a.put d v) w) : wpAnyH P md ops Q S (fuel + 1) listed a w := by
  subst hd
  exact wpAnyH_take hi hs hf hr hQ hy hS h
/-- A store into a block that is known whole, in such a region. -/
theorem step_store {K : Act → World → Prop} {Q : Exit → Act → World → Prop} {E : Prop} {ty : TypeId} {m : Nat} {v : Value} {cs cur : List Value} (row : List Value) (hw : Region.wanted o (yielded ops a.tmps) = true) (x y : Operand) (ho : o.op = .store ty x y) (hi : (P.info? ty).map (·.size) = some m) (g off : Nat) (hx : a.eval x = .pointer (some ⟨g, off, none⟩)) (hy : a.eval y = v) (hv : v.cells.toList = cs) (hm : cs.length = m) (h1 : ∀ u ∈ cs, u.oneCell' = true)
    {t : TypeId} (hg : w.heap[g]? = some (.cells cur.toArray t (0, 0))) (hfit : off + m ≤ cur.length) (hrow : cur.take off ++ cs ++ cur.drop (off + m) = row)
    (h : K (a.put o.dst undef) (w.setRow g row.toArray)) : if Region.wanted o (yielded ops a.tmps) = true then Oper.wp P o a w K Q else E := by
  subst hrow
  rw [if_pos hw]
  unfold Oper.wp execOp
  simp only [ho, hx, hy, Instr.storeAt, Instr.sureAddr, Sem.run_bind, Sem.run_pure, Result.andThen_ok, run_store_v hi hv hm h1 g off hg hfit]
  exact h
end
/-- The last element of a row of one's own, stored anew. -/
theorem own_last {w : World} {base size n : Nat} {e : TypeId} {v : Value} {xs zs cs : List Value} (h : w.ownsRow base e size v (n + 1) (xs ++ zs)) (h0 : 0 < size) (hx : xs.length = n * size) (hz : zs.length = size) (hc : cs.length = size) :
    ∃ (g cap : Nat) (cur : List Value), v = .slice (some ⟨g, 0, none⟩) (n + 1) cap ∧ base ≤ g ∧ g < w.heap.size ∧ n < cap ∧ cap ≤ maxLen ∧ w.heap[g]? = some (.cells cur.toArray e (0, 0)) ∧ n * size + size ≤ cur.length ∧ cur.length = cap * size ∧
      ∀ w' : World, w'.heap[g]? = some (.cells (cur.take (n * size) ++ cs ++ cur.drop (n * size + size)).toArray e (0, 0)) → w'.ownsRow base e size v (n + 1) (xs ++ cs) := by
  have hlen := h.1
  rcases h.2 with ⟨rfl, h00⟩ | ⟨g, cap, cur, rfl, hb, hh, hnc, hcm, hsz, htk⟩
  · exact absurd h00 (Nat.succ_ne_zero n)
  · have hfit : n * size + size ≤ cur.toList.length := by
      rw [Array.length_toList, hsz, ← Nat.succ_mul]
      exact Nat.mul_le_mul_right _ hnc
    refine ⟨g, cap, cur.toList, rfl, hb, (h.lt g rfl).2, hnc, hcm, by simpa using hh, hfit, by simpa using hsz, fun w' hw' => ⟨by simp only [List.length_append, hx, hc, Nat.succ_mul], .inr ⟨g, cap, _, rfl, hb, hw', hnc, hcm, ?_, ?_⟩⟩⟩
    · have h1 := hsz
      rw [← Array.length_toList] at h1
      simp only [List.size_toArray, List.length_append, List.length_take, List.length_drop, hc]
      omega
    · have hk : (cur.toList.take (n * size)) = xs := by
        have h1 : cur.toList.take ((n + 1) * size) = xs ++ zs := htk
        have h2 := congrArg (List.take (n * size)) h1
        rw [List.take_take, Nat.min_eq_left (Nat.mul_le_mul_right _ (Nat.le_succ n)), List.take_append_of_le_length (by omega), (show xs.take (n * size) = xs from List.take_of_length_le (by omega))] at h2
        exact h2
      show (List.toArray _).toList.take ((n + 1) * size) = _
      rw [hk, List.take_append_of_le_length (by simp only [List.length_append, hx, hc, Nat.succ_mul]; omega), List.take_of_length_le (by simp only [List.length_append, hx, hc, Nat.succ_mul]; omega)]
theorem st28 : (Tryz.prog.info? 28).map (·.size) = some 1 := by kernel_rfl
/-- What the closure add does. -/
def AddPost (w : World) (g B : Nat) (fl : List (ByteArray × V)) (e : Ending) (w' : World) : Prop := ∃ F', e = .returned (.tuple #[]) ∧ MapAt w' g B F' fl ∧ Below g w w'
theorem add_any (key : ByteArray) (c : VC) (x : V) (w : World) (g B : Nat) (F : Value) (fl : List (ByteArray × V)) (hm : MapAt w g B F fl) (hB : B ≤ g) (hk : key.size ≤ 1000000000) (hl : fl.length < 1000) (hx : RdI w (fun b => TB B g b ∧ some b ≠ F.ownBlock) c x) :
    Calls Tryz.prog 32 #[.string key, aggV c, .pointer (some ⟨g, 0, none⟩)] w (AddPost w g B (fl ++ [(key, x)])) := by
  have hgl := hm.lt
  obtain ⟨cs, hcl, hown, hrds⟩ := hm.2
  obtain ⟨va, vcap, rfl⟩ := own_form hown
  have HM := Lib.hid hm
  have HX := Lib.hid hx
  have HOWN := Lib.hid hown
  have HRS := Lib.hid hrds
  obtain ⟨⟨-, -, -, -, -, -, -, -, -, -, -, -, x12⟩, -⟩ := box13 hm.1
  have HONE := Lib.hid (vc_one hx.any)
  obtain ⟨⟨p0, p1, p2, p3, p4, p5, p6, p7, p8, p9, p10⟩, q1, q2, q3, n1, n2, n3, m1, m2, m3, rfl⟩ := hx.forms
  clear hm hx hown hrds
  go_enter Tryz.func32, Tryz.ntmps32
  go_wp2_with fail
  generalize hW : World.alloc w _ = w1
  obtain ⟨ha1, -, hz1, hb1⟩ := alloc_of hW
  have HA1 := Lib.hid ha1
  have HB1 := Lib.hid hb1
  have x12 := (hb1.cell (p := ⟨g, 12, none⟩) hgl).trans x12
  clear hW ha1 hb1
  refine wp_region_held_drew (S := fun w' => ∀ j, j < 13 → w'.cell? ⟨w.heap.size, 0 + j, none⟩ = (VC.cells ⟨⟨p0, p1, p2, p3, p4, p5, p6, p7, p8, p9, p10⟩, .slice q1 n1 m1, .slice q2 n2 m2, .slice q3 n3 m3⟩)[j]?) (by kernel_rfl) (rowV HA1.out) (fun hHeld => ?_)
  have HB2 := Lib.hid HB1.out.drew
  have hz2 : w1.drew.heap.size = w.heap.size + 1 := hz1
  have x12 : w1.drew.cell? ⟨g, 12, none⟩ = some (.slice va fl.length vcap) := x12
  generalize w1.drew = w2 at *
  clear HA1 HB1 hz1
  refine take_at 0 (some 5) rfl rfl (by kernel_rfl) (by kernel_rfl) (by kernel_rfl) (fun _ _ _ h => h) (Or.inl ⟨by rfl, fun w hSw => by (go_simp; with_reducible rfl)⟩) hHeld ?_
  simp only [Act.put, List.setIfInBounds_toArray, List.set_cons_zero, List.set_cons_succ]
  refine take_at 2 (some 7) rfl rfl (by kernel_rfl) (by kernel_rfl) (by kernel_rfl) (fun _ _ _ h => h) (Or.inl ⟨by rfl, fun w hSw => by (go_simp; with_reducible rfl)⟩) hHeld ?_
  simp only [Act.put, List.setIfInBounds_toArray, List.set_cons_zero, List.set_cons_succ]
  refine take_at 3 (some 8) rfl rfl (by kernel_rfl) (by kernel_rfl) (by kernel_rfl) (fun _ _ _ h => h) (yl_load (cs := [.int .i64 p0, .bool p1, .bool p2, .string p3, .int .i64 p4, .int .i64 p5, .int .i64 p6, .int .i64 p7, .int .i64 p8, .string p9, .slice q1 n1 m1, .slice q2 n2 m2, .slice q3 n3 m3]) stVk rfl _ _ (fun w hS => hS) rfl _ rfl rfl) hHeld ?_
  simp only [Act.put, List.setIfInBounds_toArray, List.set_cons_zero, List.set_cons_succ]
  refine take_at 4 (some 9) rfl rfl (by kernel_rfl) (by kernel_rfl) (by kernel_rfl) (fun _ _ _ h => h) (Or.inl ⟨by rfl, fun w hSw => by (go_simp; with_reducible rfl)⟩) hHeld ?_
  simp only [Act.put, List.setIfInBounds_toArray, List.set_cons_zero, List.set_cons_succ]
  refine wpAnyH_ready (rs := [1, 6]) (by kernel_rfl) (by simp) ?_
  have HS2 : Hid (∀ j, j < 13 → (w2.alloc (.cells #[.string ⟨#[]⟩, .int .i64 0, .bool false, .bool false, .string ⟨#[]⟩, .int .i64 0, .int .i64 0, .int .i64 0, .int .i64 0, .int .i64 0, .string ⟨#[]⟩, .slice none 0 0, .slice none 0 0, .slice none 0 0] 67)).cell? ⟨w.heap.size, 0 + j, none⟩ = ([.int .i64 p0, .bool p1, .bool p2, .string p3, .int .i64 p4, .int .i64 p5, .int .i64 p6, .int .i64 p7, .int .i64 p8, .string p9, .slice q1 n1 m1, .slice q2 n2 m2, .slice q3 n3 m3] : List Value)[j]?) := fun j hj => (World.cell?_alloc_lt _ _ _ (by dsimp only; omega)).trans (hHeld j hj)
  have x12' : (w2.alloc (.cells #[.string ⟨#[]⟩, .int .i64 0, .bool false, .bool false, .string ⟨#[]⟩, .int .i64 0, .int .i64 0, .int .i64 0, .int .i64 0, .int .i64 0, .string ⟨#[]⟩, .slice none 0 0, .slice none 0 0, .slice none 0 0] 67)).cell? ⟨g, 12, none⟩ = some (.slice va fl.length vcap) := (World.cell?_alloc_lt _ _ _ (by dsimp only; omega)).trans x12
  refine AllReadyH.cons rfl (fun K hK => ?_) (AllReadyH.cons rfl (fun K hK => ?_) AllReadyH.nil)
  all_goals go_simp
  all_goals first
    | (refine hK.out _ _ hHeld (fun hHeld => ?_)
       clear hK K
       refine take_at 5 (some 10) rfl rfl (by kernel_rfl) (by kernel_rfl) (by kernel_rfl) (fun _ _ _ h => h) (Or.inl ⟨by rfl, fun w hSw => by (go_simp; with_reducible rfl)⟩) hHeld ?_
       simp only [Act.put, List.setIfInBounds_toArray, List.set_cons_zero, List.set_cons_succ]
       refine wpAnyH_ready (rs := [6]) (by kernel_rfl) (by simp) ?_
       refine AllReadyH.cons rfl (fun K hK => ?_) AllReadyH.nil
       go_simp
       refine hK.out _ _ HS2.out (fun hHeld => ?_)
       clear hK K)
    | (refine hK.out _ _ HS2.out (fun hHeld => ?_)
       clear hK K
       refine wpAnyH_ready (rs := [1]) (by kernel_rfl) (by simp) ?_
       refine AllReadyH.cons rfl (fun K hK => ?_) AllReadyH.nil
       go_simp
       refine hK.out _ _ HS2.out (fun hHeld => ?_)
       clear hK K
       refine take_at 5 (some 10) rfl rfl (by kernel_rfl) (by kernel_rfl) (by kernel_rfl) (fun _ _ _ h => h) (Or.inl ⟨by rfl, fun w hSw => by (go_simp; with_reducible rfl)⟩) hHeld ?_
       simp only [Act.put, List.setIfInBounds_toArray, List.set_cons_zero, List.set_cons_succ])
  all_goals
    refine wpAnyH_ready (rs := [7]) (by kernel_rfl) (by simp) ?_
    refine AllReadyH.cons rfl (fun K hK => ?_) AllReadyH.nil
    refine step_push2 elemF (by rfl) _ _ (by rfl) (own_below HOWN.out HB2.out) [.string ⟨#[]⟩, .int .i64 0, .bool false, .bool false, .string ⟨#[]⟩, .int .i64 0, .int .i64 0, .int .i64 0, .int .i64 0, .int .i64 0, .string ⟨#[]⟩, .slice none 0 0, .slice none 0 0, .slice none 0 0] (by rfl) (by simp [Value.oneCell']) (by rfl) (by simp [Act.eval, hz2]) (by omega) (by omega) ?_
    intro v' w5 hown5 hg5 hb5 hf5 hk5
    have hne : some w.heap.size ≠ (Value.slice va fl.length vcap).ownBlock := fun h => by have := (HOWN.out.lt _ h.symm).2; omega
    refine hK.out _ _ (fun j hj => (hk5 _ _ hne (by omega)).trans (HS2.out j hj)) (fun hHeld => ?_)
    clear hK K
    have hgo : some g ≠ (Value.slice va fl.length vcap).ownBlock := fun h => by have := (HOWN.out.lt _ h.symm).1; omega
    have hG5 := (hg5.block g (by omega) hgo).trans ((HB2.out.block g hgl).trans HM.out.1)
    have hgz := hg5.size
    obtain ⟨g5, cap5, cur5, rfl, hgb5, hgz5, hn5, hcm5, hh5, hfit5, hlen5, hlast⟩ := own_last (cs := fcells (key, ⟨⟨p0, p1, p2, p3, p4, p5, p6, p7, p8, p9, p10⟩, .slice q1 n1 m1, .slice q2 n2 m2, .slice q3 n3 m3⟩)) hown5 (by decide) HOWN.out.1 rfl rfl
    have HH5 := Lib.hid hh5
    have HG5 := Lib.hid hG5
    have HLAST := Lib.hid hlast
    have HF5 := Lib.hid hf5
    have hb0 : (0 : Int) ≤ (fl.length : Int) := by omega
    have hb1 : (fl.length : Int) < (fl.length : Int) + 1 := by omega
    clear hh5 hG5 hlast hf5 hk5 hown5 hlen5
    refine take_at 8 (some 13) rfl rfl (by kernel_rfl) (by kernel_rfl) (by kernel_rfl) (fun _ _ _ h => h) (Or.inl ⟨by rfl, fun w hSw => by (go_simp; with_reducible rfl)⟩) hHeld ?_
    simp only [Act.put, List.setIfInBounds_toArray]
    refine take_at 10 (some 14) rfl rfl (by kernel_rfl) (by kernel_rfl) (by kernel_rfl) (fun _ _ _ h => h) (Or.inl ⟨by rfl, fun w hSw => by (go_simp; with_reducible rfl)⟩) hHeld ?_
    simp only [Act.put]
    refine wpAnyH_ready (rs := [9, 11]) (by kernel_rfl) (by simp) ?_
    have hgg : g5 ≠ g := by omega
    have hgw : w.heap.size ≠ g := by omega
    have hg5w : w.heap.size ≠ g5 := by
      rcases HF5.out with h | h
      · intro hh
        have := (HOWN.out.lt g5 (h.symm.trans rfl)).2
        omega
      · have := h g5 rfl
        omega
    have HKEY : ∀ u ∈ (fcells (key, ⟨⟨p0, p1, p2, p3, p4, p5, p6, p7, p8, p9, p10⟩, .slice q1 n1 m1, .slice q2 n2 m2, .slice q3 n3 m3⟩)), u.oneCell' = true := by
      intro u hu
      rcases List.mem_cons.1 hu with rfl | hu
      · rfl
      · exact HONE.out u hu
    refine AllReadyH.cons rfl (fun K hK => ?_) (AllReadyH.cons rfl (fun K hK => ?_) AllReadyH.nil)
  all_goals first
    | (refine step_store (cs := (fcells (key, ⟨⟨p0, p1, p2, p3, p4, p5, p6, p7, p8, p9, p10⟩, .slice q1 n1 m1, .slice q2 n2 m2, .slice q3 n3 m3⟩))) _ rfl _ _ rfl stF.2 g5 (fl.length * 14) rfl rfl rfl rfl HKEY HH5.out hfit5 rfl ?_
       generalize hW6 : World.setRow _ _ _ = w6
       obtain ⟨hr6, ho6, hz6, hb6⟩ := setRow_of hW6 HH5.out
       refine hK.out _ _ (fun j hj => (World.cell?_of_block (ho6 _ hg5w)).trans (hHeld j hj)) (fun hHeld => ?_)
       clear hK K hW6
       refine wpAnyH_ready (rs := [11]) (by kernel_rfl) (by simp) ?_
       refine AllReadyH.cons rfl (fun K hK => ?_) AllReadyH.nil
       refine step_store (cs := [.slice (some ⟨g5, 0, none⟩) (fl.length + 1) cap5]) _ rfl _ _ rfl st28 g 12 rfl rfl rfl rfl (by intro u hu; rw [List.mem_singleton.1 hu]; rfl) ((ho6 g hgg.symm).trans HG5.out) (Nat.le_refl 13) rfl ?_
       generalize hW7 : World.setRow _ _ _ = w7
       obtain ⟨hr7, ho7, hz7, hb7⟩ := setRow_of hW7 ((ho6 g hgg.symm).trans HG5.out)
       refine hK.out _ _ (fun j hj => (World.cell?_of_block (ho7 _ hgw)).trans (hHeld j hj)) (fun hHeld => ?_)
       clear hK K hW7
       clear hHeld
       replace hr6 := (ho7 g5 hgg).trans hr6
       have hoo : ∀ b, b ≠ g → b ≠ g5 → w7.heap[b]? = w5.heap[b]? := fun b h1 h2 => (ho7 b h1).trans (ho6 b h2)
       have hbb : Below g w5 w7 := (hb6 g (by omega)).trans (hb7 g (Nat.le_refl _))
       clear ho6 ho7 hb6 hb7)
    | (refine step_store (cs := [.slice (some ⟨g5, 0, none⟩) (fl.length + 1) cap5]) _ rfl _ _ rfl st28 g 12 rfl rfl rfl rfl (by intro u hu; rw [List.mem_singleton.1 hu]; rfl) HG5.out (Nat.le_refl 13) rfl ?_
       generalize hW6 : World.setRow _ _ _ = w6
       obtain ⟨hr6, ho6, hz6, hb6⟩ := setRow_of hW6 HG5.out
       refine hK.out _ _ (fun j hj => (World.cell?_of_block (ho6 _ hgw)).trans (hHeld j hj)) (fun hHeld => ?_)
       clear hK K hW6
       refine wpAnyH_ready (rs := [9]) (by kernel_rfl) (by simp) ?_
       refine AllReadyH.cons rfl (fun K hK => ?_) AllReadyH.nil
       refine step_store (cs := (fcells (key, ⟨⟨p0, p1, p2, p3, p4, p5, p6, p7, p8, p9, p10⟩, .slice q1 n1 m1, .slice q2 n2 m2, .slice q3 n3 m3⟩))) _ rfl _ _ rfl stF.2 g5 (fl.length * 14) rfl rfl rfl rfl HKEY ((ho6 g5 hgg).trans HH5.out) hfit5 rfl ?_
       generalize hW7 : World.setRow _ _ _ = w7
       obtain ⟨hr7, ho7, hz7, hb7⟩ := setRow_of hW7 ((ho6 g5 hgg).trans HH5.out)
       refine hK.out _ _ (fun j hj => (World.cell?_of_block (ho7 _ hg5w)).trans (hHeld j hj)) (fun hHeld => ?_)
       clear hK K hW7
       clear hHeld
       replace hr6 := (ho7 g hgg.symm).trans hr6
       have hrx := hr6
       replace hr6 := hr7
       replace hr7 := hrx
       clear hrx
       have hoo : ∀ b, b ≠ g → b ≠ g5 → w7.heap[b]? = w5.heap[b]? := fun b h1 h2 => (ho7 b h2).trans (ho6 b h1)
       have hbb : Below g w5 w7 := (hb6 g (Nat.le_refl _)).trans (hb7 g (by omega))
       clear ho6 ho7 hb6 hb7)
  all_goals
    have hfin : AddPost w g B (fl ++ [(key, x)]) (.returned (.tuple #[])) w7 := by
      refine ⟨.slice (some ⟨g5, 0, none⟩) (fl.length + 1) cap5, rfl, ⟨hr7, OwnN.push stbF hcl HRS.out (c := (key, ⟨⟨p0, p1, p2, p3, p4, p5, p6, p7, p8, p9, p10⟩, .slice q1 n1 m1, .slice q2 n2 m2, .slice q3 n3 m3⟩)) (x := (key, x)) ⟨rfl, hk, HX.out⟩ (HLAST.out w7 hr6) (fun b hT hb hne => ?_) (by omega) ?_⟩, ?_⟩
      · have hb5 : b ≠ g5 := by
          rintro rfl
          rcases HF5.out with h | h
          · exact hne (h.symm.trans rfl).symm
          · have := h b rfl
            omega
        exact (hoo b (by rcases hT with h | h <;> omega) hb5).trans ((hg5.block b (by omega) hne).trans (HB2.out.block b hb))
      · rcases HF5.out with h | h
        · exact .inl h
        · exact .inr (fun k hk => by have := h k hk; omega)
      · exact ((HB2.out.mono (by omega)).trans (hb5.mono (by omega))).trans hbb
    have HFIN := Lib.hid hfin
    clear hfin hr6 hr7 hoo hbb
    refine wpAnyH_done (by kernel_rfl) ?_ _
    go_wp2_with fail
    go_end0
    exact HFIN.out
end Go.Proofs.YthdninnjjmhpfaaGreatDoor

namespace Go.Proofs.YthdninnjjmhpfaaGreatDoor
open Go.RowKit
set_option maxHeartbeats 4000000
set_option maxRecDepth 100000

theorem bytesN : BytesT Tryz.prog 26 9 5 := bytesT_of Tryz.underlying26 Tryz.underlying9 Tryz.underlying5 (by kernel_rfl)
theorem u8_info : (Tryz.prog.info? 5).map (fun i => (i.zero, i.size, i.bytes)) = some (some (.int .u8 0), 1, 1) := by kernel_rfl
/-- n zeros, k of them written. -/
def nA (n k : Nat) : List UInt8 := List.replicate k 48 ++ List.replicate (n - k) 0
theorem nA_len (n k : Nat) (h : k ≤ n) : (nA n k).length = n := by unfold nA; simp; omega
theorem made_u8 (n : Nat) : madeCells #[.int .u8 0] (n * 1) = ((nA n 0).map bv).toArray := by
  apply Array.ext_getElem?
  intro i
  unfold madeCells nA
  rw [Array.getElem?_map, Array.getElem?_range, List.getElem?_toArray, List.getElem?_map]
  by_cases h : i < n
  · rw [if_pos (by omega), List.replicate_zero, List.nil_append, List.getElem?_replicate, if_pos (by omega)]
    simp [Nat.mod_one, bv]
  · rw [if_neg (by omega), List.replicate_zero, List.nil_append, List.getElem?_replicate, if_neg (by omega)]
    rfl
theorem make_u8 (n : Nat) (hn : n ≤ 1000000) (w : World) : (Instr.makeSlice 26 (.int .i64 (n : Int)) (.int .i64 (n : Int))).run Tryz.prog w = .ok (.slice (some ⟨w.heap.size, 0, none⟩) n n) (w.alloc (.cells ((nA n 0).map bv).toArray 5)) := by
  obtain ⟨i, hi, hz, hs, hb⟩ := info_parts u8_info
  have hr := run_make (P := Tryz.prog) w 26 5 i _ Tryz.underlying26 hi hz .i64 .i64 n n (by omega) (Int.le_refl _) (by rw [hb]; omega) (by omega)
  rw [hr, Int.toNat_natCast, hs, ← made_u8]
  rfl
theorem nA_set (n k : Nat) (h : k < n) : (((nA n k).map bv).toArray).setIfInBounds k (.int .u8 48) = ((nA n (k + 1)).map bv).toArray := by
  apply Array.ext_getElem?
  intro i
  rw [Array.getElem?_setIfInBounds, List.getElem?_toArray, List.getElem?_toArray, List.getElem?_map, List.getElem?_map]
  unfold nA
  by_cases hi : k = i
  · subst hi
    rw [if_pos rfl, if_pos (by simp; omega), List.getElem?_append_left (by simp), List.getElem?_replicate, if_pos (by omega)]
    rfl
  · rw [if_neg hi]
    by_cases hlt : i < k
    · rw [List.getElem?_append_left (by simp; omega), List.getElem?_append_left (by simp; omega), List.getElem?_replicate, List.getElem?_replicate, if_pos hlt, if_pos (by omega)]
    · rw [List.getElem?_append_right (by simp; omega), List.getElem?_append_right (by simp; omega), List.getElem?_replicate, List.getElem?_replicate]
      simp only [List.length_replicate]
      by_cases h2 : i < n
      · rw [if_pos (by omega), if_pos (by omega)]
      · rw [if_neg (by omega), if_neg (by omega)]
theorem Noughts_any (n : Nat) (w : World) (hn : n ≤ 1000) :
    Calls Tryz.prog 107 #[.int .i64 n] w fun e w' => e = .returned (.string ⟨(List.replicate n (48 : UInt8)).toArray⟩) ∧ Below w.heap.size w w' := by
  have hmk := make_u8 n (by omega)
  go_enter Tryz.func107, Tryz.ntmps107
  go_wp2_with fail
  clear hmk
  generalize hW : World.alloc w _ = w1
  obtain ⟨ha, -, hz, hb⟩ := alloc_of hW
  have HA := Lib.hid ha
  have HB := Lib.hid hb
  clear hW ha hb
  generalize hg : w.heap.size = g at *
  go_loopw [4] (fun iv wr => ∃ k : Nat, k ≤ n ∧ iv = .int .i64 k ∧ Hid (wr.heap[g]? = some (.cells ((nA n k).map bv).toArray 5 (0, 0))) ∧ Hid (Below g w wr)) (fun iv _ => n - (intOf iv).toNat)
  case atStart => exact ⟨0, Nat.zero_le _, rfl, HA.out, HB.out⟩
  case round =>
    clear HA HB hz
    obtain ⟨k, hk, rfl, HA, HB⟩ := hrel
    by_cases hlt : k < n
    case neg =>
      obtain rfl : k = n := by omega
      have hown : wr.ownsRow g 5 1 (.slice (some ⟨g, 0, none⟩) k k) k ((nA k k).map bv) := by
        refine ⟨by rw [List.length_map, nA_len k k (Nat.le_refl _)]; omega, .inr ⟨g, k, _, rfl, Nat.le_refl _, HA.out, Nat.le_refl _, by simp only [maxLen]; omega, by rw [List.size_toArray, List.length_map, nA_len k k (Nat.le_refl _)]; omega, ?_⟩⟩
        rw [List.take_of_length_le (by rw [List.length_map, nA_len k k (Nat.le_refl _)]; omega)]
      have hcv := conv_own bytesN hown
      have hnn : nA k k = List.replicate k 48 := by unfold nA; simp
      rw [hnn] at hcv
      clear hown hnn HA
      go_wp2_with fail
      go_ret
      exact ⟨rfl, by rw [hg]; exact HB.out⟩
    have hc : wr.cell? ⟨g, k, none⟩ = some (.int .u8 0) := by
      rw [cell_of_row _ _ _ _ _ _ HA.out, List.getElem?_toArray, List.getElem?_map]
      unfold nA
      rw [List.getElem?_append_right (by simp), List.getElem?_replicate, if_pos (by simp; omega)]
      rfl
    have hf : wr.frozen? ⟨g, k, none⟩ = false := by simp [World.frozen?, HA.out]
    have HS := Lib.hid (heap_setCell_same wr g k _ _ (.int .u8 48) HA.out)
    rw [nA_set n k hlt] at HS
    clear HA
    go_wp2_with fail
    exact ⟨⟨k + 1, by omega, by go_num, HS.out, HB.out.setCell (Nat.le_refl _) _⟩, by simp [intOf]; omega⟩
/-- The number of digits. -/
def valD (acc : Nat) : List UInt8 → Nat
  | [] => acc
  | b :: t => valD (10 * acc + (b.toNat - 48)) t
theorem valD_snoc : ∀ (l : List UInt8) (a : Nat) (b : UInt8), valD a (l ++ [b]) = 10 * valD a l + (b.toNat - 48)
  | [], a, b => rfl
  | c :: t, a, b => by
    rw [List.cons_append]
    show valD (10 * a + (c.toNat - 48)) (t ++ [b]) = _
    rw [valD_snoc t _ b]
    rfl
theorem take_succ_D (s : ByteArray) (k : Nat) (h : k < s.size) : (L s).take (k + 1) = (L s).take k ++ [s[k]] := by
  rw [List.take_succ_eq_append_getElem (by rw [L_len]; exact h), L_get]
theorem dig_atD (s : ByteArray) (k : Nat) (h : k < s.size) (ha : (L s).all dig = true) : 48 ≤ (s[k]).toNat ∧ (s[k]).toNat ≤ 57 := by
  have hd : dig s[k] = true := List.all_eq_true.1 ha _ (by rw [← L_get s k h]; exact List.getElem_mem _)
  unfold dig at hd
  simp at hd
  omega
theorem rii2 {a b c d : Int} (h : a = b) (h2 : c = d) : Ending.returned (.tuple #[.int .i64 a, .int .i64 c]) = Ending.returned (.tuple #[.int .i64 b, .int .i64 d]) := by rw [h, h2]
theorem wrap_nil : wrap64 ((valD 0 [] : Nat) : Int) = 0 := by
  have : valD 0 [] = 0 := rfl
  rw [this]
  unfold wrap64
  omega
theorem wrap_step (a c b : Nat) (hc : 48 ≤ c) (hb : b = 10 * a + (c - 48)) (m : Int) (hm : wrap64 (a : Int) = m) : wrap64 (wrap64 (wrap64 (10 * m) + wrap64 (c : Int)) - 48) = wrap64 (b : Int) := by
  unfold wrap64 at *
  omega
/-- What ToInt answers: the number as the machine has it; or, for nineteen digits, an error. -/
def TI1 (s : ByteArray) (w : World) (e : Ending) (w' : World) : Prop := (e = .returned (.tuple #[.int .i64 (wrap64 (valD 0 (L s))), .int .i64 0]) ∨ (e = .returned (.tuple #[.int .i64 0, .int .i64 2]) ∧ s.size = 19)) ∧ w = w'
def Cmp19 (s : ByteArray) (v : Value) (w wx : World) : Prop := ∃ b : Bool, v = .bool b ∧ (b = true → s.size = 19) ∧ w = wx
theorem ToInt1_any (s : ByteArray) (w : World) (h19 : s.size ≤ 19) (hn : natB (L s) = true) :
    Calls Tryz.prog 108 #[.string s] w (TI1 s w) := by
  have ha : (L s).all dig = true := by
    unfold natB at hn
    rw [Bool.and_eq_true, Bool.and_eq_true] at hn
    exact hn.2.1
  have HV := Lib.hid (Valid1_any s w (by omega))
  rw [hn] at HV
  have HA := Lib.hid ha
  have h19i : (s.size : Int) ≤ 19 := by omega
  clear hn ha
  go_enter Tryz.func108, Tryz.ntmps108
  go_wp2_with fail
  refine HV.out.mono ?_
  rintro e w' ⟨rfl, rfl⟩
  go_upto_region 3 with fail
  go_cut [20] (fun v wx => Cmp19 s v w wx)
  case first =>
    by_cases h : s.size = 19
    case pos =>
      have hq : ((s.size : Int) == 19) = true := by rw [h]; rfl
      have HH := Lib.hid h
      clear h
      go_wp2_with fail
      go_meet
      exact ⟨_, rfl, fun _ => HH.out, rfl⟩
    case neg =>
      have hq : ((s.size : Int) == 19) = false := by rw [beq_eq_false_iff_ne]; omega
      clear h
      go_wp2_with fail
      · exfalso
        omega
      go_meet
      exact ⟨false, rfl, fun h => absurd h (by decide), rfl⟩
  case rest =>
  obtain ⟨b, rfl, hb, rfl⟩ := hcut
  have HBB := Lib.hid hb
  clear hb
  cases b with
  | true =>
    go_wp2_with fail
    go_ret2
    exact ⟨.inr ⟨rfl, HBB.out (by first | exact rfl | trivial)⟩, rfl⟩
  | false =>
  clear HBB
  go_wp2_with fail
  go_loop [4, 5] (fun n v => ∃ k : Nat, v = .int .i64 k ∧ k ≤ s.size ∧ n = .int .i64 (wrap64 (valD 0 ((L s).take k) : Nat))) (fun _ v => s.size - (intOf v).toNat)
  case atStart => exact ⟨0, rfl, Nat.zero_le _, congrArg (Value.int .i64) (by rw [List.take_zero]; exact wrap_nil.symm)⟩
  case round =>
    obtain ⟨k, rfl, hk, rfl⟩ := hrel
    by_cases hlt : k < s.size
    case neg =>
      have HF : Hid (valD 0 ((L s).take k) = valD 0 (L s)) := by unfold Hid; rw [List.take_of_length_le (by rw [L_len]; omega)]
      clear HA
      go_wp2_with fail
      go_ret2
      exact ⟨.inl (rii2 (by rw [HF.out]) rfl), rfl⟩
    have HN : Hid (valD 0 ((L s).take (k + 1)) = 10 * valD 0 ((L s).take k) + ((s[k]).toNat - 48)) := by unfold Hid; rw [take_succ_D s k hlt, valD_snoc]
    obtain ⟨hd1, hd2⟩ := dig_atD s k hlt HA.out
    have HD1 := Lib.hid hd1
    clear HA hd1 hd2
    generalize valD 0 ((L s).take k) = n at *
    generalize hm : wrap64 (n : Int) = m at *
    have HM := Lib.hid hm
    clear hm
    go_wp2_with fail
    exact ⟨⟨k + 1, by go_num, by omega, congrArg (Value.int .i64) (wrap_step n _ _ HD1.out HN.out m HM.out)⟩, by simp [intOf]; omega⟩
theorem valD_lt : ∀ (l : List UInt8) (a : Nat), (∀ b ∈ l, dig b = true) → valD a l < (a + 1) * 10 ^ l.length
  | [], a, _ => by show a < (a + 1) * 1; omega
  | b :: t, a, h => by
    have hd : dig b = true := h b List.mem_cons_self
    have hd2 : b.toNat ≤ 57 := by unfold dig at hd; simp at hd; omega
    have ih := valD_lt t (10 * a + (b.toNat - 48)) (fun c hc => h c (List.mem_cons_of_mem _ hc))
    show valD (10 * a + (b.toNat - 48)) t < _
    rw [List.length_cons, Nat.pow_succ]
    refine Nat.lt_of_lt_of_le ih ?_
    calc (10 * a + (b.toNat - 48) + 1) * 10 ^ t.length ≤ ((a + 1) * 10) * 10 ^ t.length := Nat.mul_le_mul_right _ (by omega)
      _ = (a + 1) * (10 ^ t.length * 10) := by rw [Nat.mul_assoc, Nat.mul_comm 10]
theorem valD_ge : ∀ (l : List UInt8) (a : Nat), a * 10 ^ l.length ≤ valD a l
  | [], a => by show a * 1 ≤ a; omega
  | b :: t, a => by
    have ih := valD_ge t (10 * a + (b.toNat - 48))
    show _ ≤ valD (10 * a + (b.toNat - 48)) t
    rw [List.length_cons, Nat.pow_succ]
    refine Nat.le_trans ?_ ih
    calc a * (10 ^ t.length * 10) = (a * 10) * 10 ^ t.length := by rw [Nat.mul_assoc, Nat.mul_comm 10]
      _ ≤ (10 * a + (b.toNat - 48)) * 10 ^ t.length := Nat.mul_le_mul_right _ (by omega)
theorem valD_zeros : ∀ (n : Nat) (a : Nat), valD a (List.replicate n 48) = a * 10 ^ n
  | 0, a => by show a = a * 1; omega
  | n + 1, a => by
    rw [List.replicate_succ]
    show valD (10 * a + (48 - 48)) (List.replicate n 48) = _
    rw [valD_zeros n, Nat.pow_succ, Nat.sub_self, Nat.add_zero, Nat.mul_comm 10 a, Nat.mul_assoc, Nat.mul_comm 10]
theorem valD_app : ∀ (l m : List UInt8) (a : Nat), valD a (l ++ m) = valD (valD a l) m
  | [], _, _ => rfl
  | b :: t, m, a => by
    rw [List.cons_append]
    exact valD_app t m _
/-- The whole number from 0 to 65536 that a decimal is. -/
def numD (neg : Bool) (l : List UInt8) (e : Int) : Option Nat :=
  if neg = false ∧ 0 ≤ e ∧ (l.length : Int) + e ≤ 6 ∧ valD 0 l * 10 ^ e.toNat ≤ 65536 then some (valD 0 l * 10 ^ e.toNat) else none
/-- What the number's digits say: its length, and that it is not zero. -/
theorem dec_big {neg : Bool} {l : List UInt8} {e : Int} (h : decB neg l e = true) (_h0 : 0 ≤ e) : (l = [] ∧ neg = false ∧ e = 0) ∨ (1 ≤ l.length ∧ natB l = true ∧ 10 ^ (l.length + e.toNat - 1) ≤ valD 0 (l ++ List.replicate e.toNat 48)) := by
  unfold decB at h
  split at h
  · rename_i hl
    rw [Bool.and_eq_true, Bool.not_eq_true', decide_eq_true_iff] at h
    exact .inl ⟨hl, h.1, h.2⟩
  · rename_i hl
    rw [Bool.and_eq_true, Bool.and_eq_true] at h
    have hn := h.2.1
    refine .inr ⟨by cases l with | nil => exact absurd rfl hl | cons => simp, hn, ?_⟩
    cases l with
    | nil => exact absurd rfl hl
    | cons b t =>
      unfold natB at hn
      rw [Bool.and_eq_true, Bool.and_eq_true, decide_eq_true_iff, decide_eq_true_iff] at hn
      have hd : dig b = true := List.all_eq_true.1 hn.2.1 b List.mem_cons_self
      have hb : 49 ≤ b.toNat := by
        have := hn.2.2
        unfold dig at hd
        simp at hd this
        omega
      rw [List.cons_append]
      show _ ≤ valD (10 * 0 + (b.toNat - 48)) (t ++ List.replicate e.toNat 48)
      refine Nat.le_trans ?_ (valD_ge _ _)
      rw [List.length_append, List.length_replicate, List.length_cons]
      have : t.length + 1 + e.toNat - 1 = t.length + e.toNat := by omega
      rw [this]
      calc 10 ^ (t.length + e.toNat) = 1 * 10 ^ (t.length + e.toNat) := (Nat.one_mul _).symm
        _ ≤ _ := Nat.mul_le_mul_right _ (by omega)
theorem nat_app {l : List UInt8} {k : Nat} (h : natB l = true) (h1 : 1 ≤ l.length) (hk : l.length + k ≤ 19) : natB (l ++ List.replicate k 48) = true := by
  unfold natB at *
  rw [Bool.and_eq_true, Bool.and_eq_true, decide_eq_true_iff, decide_eq_true_iff] at *
  refine ⟨by simp; omega, ?_, ?_⟩
  · rw [List.all_append, h.2.1, Bool.true_and, List.all_eq_true]
    intro b hb
    rw [(List.mem_replicate.1 hb).2]
    rfl
  · cases l with
    | nil => simp at h1
    | cons b t => exact h.2.2
/-- What ToInt of layer 2 answers, as far as it matters. -/
def TI2 (o : Option Nat) (w : World) (e : Ending) (w' : World) : Prop := ∃ n f : Int, e = .returned (.tuple #[.int .i64 n, .int .i64 f]) ∧ (∀ m : Nat, o = some m → n = m ∧ f = 0) ∧ (o = none → f ≠ 0 ∨ n < 0 ∨ 65536 < n) ∧ Below w.heap.size w w'
/-- The answer, out of the digits with their zeros. -/
theorem ti2_of {neg : Bool} {l u : List UInt8} {e : Int} (h : decB neg l e = true) (h0 : 0 ≤ e) (h19 : (l.length : Int) + e ≤ 19) (hu : u = l ++ List.replicate e.toNat 48) :
    natB u = true ∧ (neg = false → (∀ m : Nat, numD neg l e = some m → wrap64 (valD 0 u : Nat) = m) ∧ (numD neg l e = none → wrap64 (valD 0 u : Nat) < 0 ∨ 65536 < wrap64 (valD 0 u : Nat))) ∧ (neg = true → numD neg l e = none ∧ (wrap64 (-(wrap64 (valD 0 u : Nat))) < 0 ∨ 65536 < wrap64 (-(wrap64 (valD 0 u : Nat))))) ∧ (u.length = 19 → numD neg l e = none) := by
  subst hu
  have hval : valD 0 (l ++ List.replicate e.toNat 48) = valD 0 l * 10 ^ e.toNat := by rw [valD_app, valD_zeros]
  have h7 : 6 < (l.length : Int) + e → numD neg l e = none := by
    intro h7
    unfold numD
    rw [if_neg (by intro hh; omega)]
  rcases dec_big h h0 with ⟨rfl, rfl, rfl⟩ | ⟨h1, hn, hb⟩
  · refine ⟨rfl, fun _ => ⟨fun m hm => ?_, fun hm => ?_⟩, (fun h => by cases h), fun h => by simp at h⟩
    · have : numD false [] 0 = some 0 := rfl
      rw [this] at hm
      cases hm
      exact wrap_nil
    · exact absurd hm (by decide)
  · have hnu := nat_app (k := e.toNat) hn h1 (by omega)
    have hlt : valD 0 (l ++ List.replicate e.toNat 48) < 10000000000000000000 := by
      have ha : (l ++ List.replicate e.toNat 48).all dig = true := by
        unfold natB at hnu
        rw [Bool.and_eq_true, Bool.and_eq_true] at hnu
        exact hnu.2.1
      have h2 := valD_lt _ 0 (fun b hb => List.all_eq_true.1 ha b hb)
      have h3 : (10 : Nat) ^ (l ++ List.replicate e.toNat 48).length ≤ 10 ^ 19 := Nat.pow_le_pow_right (by decide) (by simp; omega)
      have h4 : (10 : Nat) ^ 19 = 10000000000000000000 := by decide
      omega
    have hpos : 1 ≤ valD 0 (l ++ List.replicate e.toNat 48) := Nat.le_trans (Nat.pow_pos (by decide)) hb
    refine ⟨hnu, fun hng => ?_, fun hng => ?_, fun hl => h7 (by simp at hl; omega)⟩
    · by_cases h6 : (l.length : Int) + e ≤ 6
      · have hs : valD 0 (l ++ List.replicate e.toNat 48) < 1000000 := by
          have ha : (l ++ List.replicate e.toNat 48).all dig = true := by
            unfold natB at hnu
            rw [Bool.and_eq_true, Bool.and_eq_true] at hnu
            exact hnu.2.1
          have h2 := valD_lt _ 0 (fun b hb => List.all_eq_true.1 ha b hb)
          have h3 : (10 : Nat) ^ (l ++ List.replicate e.toNat 48).length ≤ 10 ^ 6 := Nat.pow_le_pow_right (by decide) (by simp; omega)
          have h4 : (10 : Nat) ^ 6 = 1000000 := by decide
          omega
        unfold numD
        rw [← hval]
        generalize valD 0 (l ++ List.replicate e.toNat 48) = v at *
        have hw : wrap64 (v : Int) = v := by unfold wrap64; omega
        rw [hw]
        by_cases hv : v ≤ 65536
        · rw [if_pos ⟨hng, h0, h6, hv⟩]
          exact ⟨fun m hm => by cases hm; rfl, fun hm => by cases hm⟩
        · rw [if_neg (by intro hh; omega)]
          exact ⟨(fun m hm => by cases hm), fun _ => .inr (by omega)⟩
      · rw [h7 (by omega)]
        have h10 : 1000000 ≤ valD 0 (l ++ List.replicate e.toNat 48) := by
          refine Nat.le_trans ?_ hb
          have h3 : (10 : Nat) ^ 6 ≤ 10 ^ (l.length + e.toNat - 1) := Nat.pow_le_pow_right (by decide) (by omega)
          have h4 : (10 : Nat) ^ 6 = 1000000 := by decide
          omega
        generalize valD 0 (l ++ List.replicate e.toNat 48) = v at *
        exact ⟨(fun m hm => by cases hm), fun _ => by unfold wrap64; omega⟩
    · subst hng
      refine ⟨by unfold numD; rw [if_neg (by intro hh; cases hh.1)], ?_⟩
      generalize valD 0 (l ++ List.replicate e.toNat 48) = v at *
      unfold wrap64
      omega
theorem L_plus (s : ByteArray) (n : Nat) : L (s ++ ⟨Array.replicate n 48⟩) = L s ++ List.replicate n 48 := by
  unfold L
  simp
theorem ToInt2_any (neg : Bool) (s : ByteArray) (e : Int) (w : World) (hd : decB neg (L s) e = true) (he1 : e ≤ 400) (hs : s.size ≤ 120) (hm : -400 ≤ e) :
    Calls Tryz.prog 74 #[.agg #[.bool neg, .string s, .int .i64 e]] w (TI2 (numD neg (L s) e) w) := by
  have HD := Lib.hid hd
  clear hd
  by_cases h0 : 0 ≤ e
  case neg =>
    have HN : Hid (numD neg (L s) e = none) := by unfold Hid numD; rw [if_neg (by intro hh; omega)]
    have hb1 : ∀ x, Below w.heap.size w (w.alloc x) := fun x => (Below.refl _ _).alloc (Nat.le_refl _) _
    have HB := Lib.hid hb1
    clear hb1
    go_enter Tryz.func74, Tryz.ntmps74
    go_wp2_with fail
    go_ret2
    exact ⟨_, _, rfl, fun m hm => absurd (HN.out.symm.trans hm) (by simp), fun _ => .inl (by decide), HB.out _⟩
  have h0' : ¬ (e < 0) := by omega
  have hls : ((L s).length : Int) = s.size := by rw [L_len]
  by_cases h19 : (s.size : Int) + e ≤ 19
  case neg =>
    have HN : Hid (numD neg (L s) e = none) := by unfold Hid numD; rw [if_neg (by intro hh; omega)]
    have hb1 : ∀ x, Below w.heap.size w (w.alloc x) := fun x => (Below.refl _ _).alloc (Nat.le_refl _) _
    have HB := Lib.hid hb1
    have h19' : (19 : Int) < (s.size : Int) + e := by omega
    clear hb1 hls h19
    go_enter Tryz.func74, Tryz.ntmps74
    go_wp2_with fail
    go_ret2
    exact ⟨_, _, rfl, fun m hm => absurd (HN.out.symm.trans hm) (by simp), fun _ => .inl (by decide), HB.out _⟩
  obtain ⟨n, rfl⟩ := Int.eq_ofNat_of_zero_le h0
  have HTI := Lib.hid (ti2_of HD.out h0 (by rw [hls]; exact h19) rfl)
  generalize numD neg (L s) n = o at *
  clear hls HD
  go_enter Tryz.func74, Tryz.ntmps74
  go_wp2_with fail
  generalize hW : World.alloc w _ = w1
  obtain ⟨ha, -, hz, hb⟩ := alloc_of hW
  have HB1 := Lib.hid hb
  have HX : Hid (∀ w', Below w.heap.size w w' → (Below w1.heap.size w1 w') → w'.cell? ⟨w.heap.size, 0, none⟩ = some (.bool neg)) := fun w' _ h => (h.cell (p := ⟨w.heap.size, 0, none⟩) (by show w.heap.size < w1.heap.size; omega)).trans (cell_of_row _ _ _ _ _ _ ha)
  have HSX : Hid (∀ w', Below w1.heap.size w1 w' → w'.cell? ⟨w.heap.size, 1, none⟩ = some (.string s) ∧ w'.cell? ⟨w.heap.size, 2, none⟩ = some (.int .i64 n)) := fun w' h => ⟨(h.cell (p := ⟨w.heap.size, 1, none⟩) (by show w.heap.size < w1.heap.size; omega)).trans (cell_of_row _ _ _ _ _ _ ha), (h.cell (p := ⟨w.heap.size, 2, none⟩) (by show w.heap.size < w1.heap.size; omega)).trans (cell_of_row _ _ _ _ _ _ ha)⟩
  have hcc : (9223372036854775807 < s.size + n) = False := eq_false (by omega)
  clear hW ha hb hz
  refine wp_region_held_drew (S := fun w' => w'.cell? ⟨w.heap.size, 1, none⟩ = some (.string s) ∧ w'.cell? ⟨w.heap.size, 2, none⟩ = some (.int .i64 n)) (by kernel_rfl) (HSX.out _ (drewB w1)) (fun hHeld => ?_)
  refine take_at 0 (some 17) rfl rfl (by kernel_rfl) (by kernel_rfl) (by kernel_rfl) (fun _ _ _ h => h) (Or.inl ⟨by rfl, fun w hSw => by (obtain ⟨q1, q2⟩ := hSw; go_simp; with_reducible rfl)⟩) hHeld ?_
  simp only [Act.put, List.setIfInBounds_toArray, List.set_cons_zero, List.set_cons_succ]
  refine take_at 1 (some 18) rfl rfl (by kernel_rfl) (by kernel_rfl) (by kernel_rfl) (fun _ _ _ h => h) (Or.inl ⟨by rfl, fun w hSw => by (obtain ⟨q1, q2⟩ := hSw; go_simp; with_reducible rfl)⟩) hHeld ?_
  simp only [Act.put, List.setIfInBounds_toArray, List.set_cons_zero, List.set_cons_succ]
  refine take_at 2 (some 19) rfl rfl (by kernel_rfl) (by kernel_rfl) (by kernel_rfl) (fun _ _ _ h => h) (Or.inl ⟨by rfl, fun w hSw => by (obtain ⟨q1, q2⟩ := hSw; go_simp; with_reducible rfl)⟩) hHeld ?_
  simp only [Act.put, List.setIfInBounds_toArray, List.set_cons_zero, List.set_cons_succ]
  refine take_at 3 (some 20) rfl rfl (by kernel_rfl) (by kernel_rfl) (by kernel_rfl) (fun _ _ _ h => h) (Or.inl ⟨by rfl, fun w hSw => by (obtain ⟨q1, q2⟩ := hSw; go_simp; with_reducible rfl)⟩) hHeld ?_
  simp only [Act.put, List.setIfInBounds_toArray, List.set_cons_zero, List.set_cons_succ]
  refine wpAnyH_ready (rs := [4]) (by kernel_rfl) (by simp) ?_
  refine AllReadyH.cons rfl (fun K hK => ?_) AllReadyH.nil
  go_simp
  refine (Noughts_any n _ (by omega)).mono ?_
  rintro e w2 ⟨rfl, hb⟩
  have HB2 := Lib.hid (HB1.out.trans ((drewB w1).mono HB1.out.size) |>.trans (hb.mono HB1.out.size))
  refine hK.out _ _ (HSX.out _ ((drewB w1).trans hb)) (fun hHeld => ?_)
  have HB3 := Lib.hid ((drewB w1).trans hb)
  clear hK K hb
  refine take_at 5 (some 22) rfl rfl (by kernel_rfl) (by kernel_rfl) (by kernel_rfl) (fun _ _ _ h => h) (Or.inl ⟨by rfl, fun w hSw => by (obtain ⟨q1, q2⟩ := hSw; go_simp; with_reducible rfl)⟩) hHeld ?_
  simp only [Act.put, List.setIfInBounds_toArray, List.set_cons_zero, List.set_cons_succ]
  refine wpAnyH_ready (rs := [6]) (by kernel_rfl) (by simp) ?_
  refine AllReadyH.cons rfl (fun K hK => ?_) AllReadyH.nil
  go_simp
  refine hK.out _ _ hHeld (fun hHeld => ?_)
  clear hK K
  have x0 := HX.out _ HB2.out HB3.out
  clear hHeld
  refine wpAnyH_done (by kernel_rfl) ?_ _
  clear HSX HX HB3 hcc
  have HU := Lib.hid (L_plus s n)
  generalize hu : s ++ (⟨Array.replicate n (48 : UInt8)⟩ : ByteArray) = u at *
  clear hu
  have hus : (L u).length = s.size + n := by rw [HU.out, List.length_append, List.length_replicate, L_len]
  rw [L_len] at hus
  obtain ⟨t1, t2, t3, t4⟩ := HTI.out
  simp only [Int.toNat_natCast] at t1 t2 t3 t4
  rw [← HU.out] at t1 t2 t3 t4
  rw [L_len] at t4
  have HT1 := Lib.hid (ToInt1_any u w2 (by omega) t1)
  have HT2 := Lib.hid t2
  have HT3 := Lib.hid t3
  have HT4 := Lib.hid t4
  clear t1 t2 t3 t4 HTI HU hus
  cases neg with
  | true =>
    obtain ⟨ho, hv⟩ := HT3.out rfl
    subst ho
    have HV := Lib.hid hv
    clear HT2 HT3 hv HT4
    cases hq : (u.toList == [57, 50, 50, 51, 51, 55, 50, 48, 51, 54, 56, 53, 52, 55, 55, 53, 56, 48, 56]) with
    | true =>
      clear HT1 HV
      go_wp2_with fail
      go_ret2
      exact ⟨_, _, rfl, (fun m hm => by cases hm), fun _ => .inr (.inl (by decide)), HB2.out⟩
    | false =>
      go_wp2_with fail
      refine HT1.out.mono ?_
      rintro e w3 ⟨rfl | ⟨rfl, -⟩, rfl⟩
      · generalize wrap64 (valD 0 (L u) : Nat) = n at *
        go_wp2_with fail
        go_ret2
        exact ⟨_, _, rfl, (fun m hm => by cases hm), fun _ => .inr HV.out, HB2.out⟩
      · go_wp2_with fail
        go_ret2
        exact ⟨_, _, rfl, (fun m hm => by cases hm), fun _ => .inl (by decide), HB2.out⟩
  | false =>
    have hv := HT2.out rfl
    have HV := Lib.hid hv
    clear HT2 HT3 hv
    go_wp2_with fail
    refine HT1.out.mono ?_
    rintro e w3 ⟨rfl | ⟨rfl, h19u⟩, rfl⟩
    · generalize wrap64 (valD 0 (L u) : Nat) = n at *
      go_wp2_with fail
      go_ret2
      exact ⟨_, _, rfl, (fun m hm => ⟨HV.out.1 m hm, rfl⟩), fun h => .inr (HV.out.2 h), HB2.out⟩
    · have ho := HT4.out h19u
      subst ho
      clear HV HT4 h19u
      go_wp2_with fail
      go_ret2
      exact ⟨_, _, rfl, (fun m hm => by cases hm), fun _ => .inl (by decide), HB2.out⟩
/-- What patch.number answers. -/
def numI (k : Int) (o : Option Nat) : Int := if k = 2 then (match o with | some m => (m : Int) | none => -1) else -1
theorem numI_no {k : Int} {o : Option Nat} (h : k ≠ 2 ∨ o = none) : numI k o = -1 := by
  unfold numI
  rcases h with h | h
  · rw [if_neg h]
  · subst h; split <;> rfl
theorem number_any (c : VC) (w : World) (hd : decB c.h.neg (L c.h.ds) c.h.exp = true) (hs : c.h.ds.size ≤ 120) (he1 : c.h.exp ≤ 400) (hm : -400 ≤ c.h.exp) (hone : ∀ u ∈ c.cells, u.oneCell' = true) :
    Calls Tryz.prog 71 #[aggV c] w fun e w' => e = .returned (.int .i64 (numI c.h.kind (numD c.h.neg (L c.h.ds) c.h.exp))) ∧ Below w.heap.size w w' := by
  obtain ⟨⟨k, a1, neg, s, e, a5, a6, a7, a8, a9, a10⟩, bv, lv, fv⟩ := c
  dsimp only at hd hs he1 hm ⊢
  have HD := Lib.hid hd
  have HB := Lib.hid (fun (x y : Obj) => ((Below.refl w.heap.size w).alloc (Nat.le_refl _) x).alloc (by simp : w.heap.size ≤ (w.alloc x).heap.size) y)
  have hls : ((L s).length : Int) = s.size := by rw [L_len]
  obtain ⟨r, hr⟩ : ∃ r, r = numI k (numD neg (L s) e) := ⟨_, rfl⟩
  rw [← hr]
  clear hd hone
  by_cases hk : k = 2
  case neg =>
    have HF : Hid (r = -1) := hr.trans (numI_no (.inl hk))
    have q1 : (k != 2) = true := by rw [bne_iff_ne]; exact hk
    clear hr hk HD hls
    go_enter Tryz.func71, Tryz.ntmps71
    go_wp2_with fail
    go_ret
    exact ⟨by rw [HF.out]; rfl, HB.out _ _⟩
  subst hk
  cases neg with
  | true =>
    have HF : Hid (r = -1) := hr.trans (numI_no (.inr (by unfold numD; rw [if_neg (by intro hh; cases hh.1)])))
    clear hr HD hls
    go_enter Tryz.func71, Tryz.ntmps71
    go_wp2_with fail
    go_ret
    exact ⟨by rw [HF.out]; rfl, HB.out _ _⟩
  | false =>
  by_cases h0 : 0 ≤ e
  case neg =>
    have HF : Hid (r = -1) := hr.trans (numI_no (.inr (by unfold numD; rw [if_neg (by intro hh; omega)])))
    have h0' : e < 0 := by omega
    clear hr HD hls h0
    go_enter Tryz.func71, Tryz.ntmps71
    go_wp2_with fail
    go_ret
    exact ⟨by rw [HF.out]; rfl, HB.out _ _⟩
  by_cases h6 : (s.size : Int) + e ≤ 6
  case neg =>
    have HF : Hid (r = -1) := hr.trans (numI_no (.inr (by unfold numD; rw [if_neg (by intro hh; omega)])))
    have h6' : (6 : Int) < (s.size : Int) + e := by omega
    clear hr HD hls h6
    go_enter Tryz.func71, Tryz.ntmps71
    go_wp2_with fail
    go_ret
    exact ⟨by rw [HF.out]; rfl, HB.out _ _⟩
  obtain ⟨n, rfl⟩ := Int.eq_ofNat_of_zero_le h0
  obtain ⟨z, hz⟩ : ∃ z, z = L s ++ List.replicate n 48 := ⟨_, rfl⟩
  have hzl : z.length = s.size + n := by rw [hz, List.length_append, List.length_replicate, L_len]
  have hall : z.all dig = true := by
    rcases dec_big HD.out h0 with ⟨h1, h2, h3⟩ | ⟨h1, hn, -⟩
    · have : n = 0 := by omega
      subst this
      rw [hz, h1]
      rfl
    · have := nat_app (k := n) hn h1 (by omega)
      rw [← hz] at this
      unfold natB at this
      rw [Bool.and_eq_true, Bool.and_eq_true] at this
      exact this.2.1
  have hval : valD 0 z = valD 0 (L s) * 10 ^ n := by rw [hz, valD_app, valD_zeros]
  have HF : Hid (r = if valD 0 z ≤ 65536 then (valD 0 z : Int) else -1) := by
    unfold Hid
    rw [hr, hval]
    unfold numI numD
    rw [if_pos rfl, Int.toNat_natCast]
    by_cases hv : valD 0 (L s) * 10 ^ n ≤ 65536
    · rw [if_pos hv, if_pos ⟨rfl, h0, by rw [hls]; exact h6, hv⟩]
    · rw [if_neg hv, if_neg (by intro hh; exact hv hh.2.2.2)]
  have HBD : Hid (∀ k, valD 0 (z.take k) < 1000000) := by
    intro k
    have h2 := valD_lt (z.take k) 0 (fun b hb => List.all_eq_true.1 hall b (List.mem_of_mem_take hb))
    have h3 : (10 : Nat) ^ (z.take k).length ≤ 10 ^ 6 := Nat.pow_le_pow_right (by decide) (by rw [List.length_take]; omega)
    have h4 : (10 : Nat) ^ 6 = 1000000 := by decide
    omega
  have HST : Hid (∀ k (h : k < z.length), valD 0 (z.take (k + 1)) = 10 * valD 0 (z.take k) + ((if h : k < s.size then s[k] else (48 : UInt8)).toNat - 48) ∧ 48 ≤ (if h : k < s.size then s[k] else (48 : UInt8)).toNat ∧ (if h : k < s.size then s[k] else (48 : UInt8)).toNat ≤ 57) := by
    intro k h
    have hzk : z[k] = if h : k < s.size then s[k] else (48 : UInt8) := by
      subst hz
      by_cases hks : k < s.size
      · rw [dif_pos hks, List.getElem_append_left (by rw [L_len]; exact hks), L_get]
      · rw [dif_neg hks, List.getElem_append_right (by rw [L_len]; omega), List.getElem_replicate]
    rw [← hzk]
    have hd : dig z[k] = true := List.all_eq_true.1 hall _ (List.getElem_mem _)
    refine ⟨by rw [List.take_succ_eq_append_getElem h, valD_snoc], ?_⟩
    unfold dig at hd
    simp at hd
    omega
  have HTZ : Hid (z.take 0 = []) := List.take_zero
  have HTN : Hid (z.take z.length = z) := List.take_length
  clear hr HD hls hz hall hval h0
  go_enter Tryz.func71, Tryz.ntmps71
  go_wp2_with fail
  go_loop [4, 35] (fun v i => ∃ k : Nat, i = .int .i64 k ∧ k ≤ z.length ∧ v = .int .i64 (valD 0 (z.take k) : Nat)) (fun _ i => z.length - (intOf i).toNat)
  case atStart => exact ⟨0, rfl, Nat.zero_le _, congrArg (Value.int .i64) (by rw [HTZ.out]; rfl)⟩
  case round =>
    obtain ⟨k, rfl, hk, rfl⟩ := hrel
    by_cases hlt : k < z.length
    case neg =>
      obtain rfl : k = z.length := by omega
      have hb := HBD.out z.length
      rw [HTN.out] at hb
      rw [HTN.out]
      clear HBD HST HTZ HTN
      generalize valD 0 z = v at *
      have hge : ¬ ((z.length : Int) < s.size + n) := by omega
      by_cases hv : v ≤ 65536
      case pos =>
        have HF2 : Hid (r = v) := by unfold Hid; rw [HF.out, if_pos hv]
        have hv1 : ¬ ((65536 : Int) < v) := by omega
        clear HF hv
        go_wp2_with fail
        go_ret
        exact ⟨by rw [HF2.out]; rfl, HB.out _ _⟩
      case neg =>
        have HF2 : Hid (r = -1) := by unfold Hid; rw [HF.out, if_neg hv]
        have hv1 : (65536 : Int) < v := by omega
        clear HF hv
        go_wp2_with fail
        go_ret
        exact ⟨by rw [HF2.out]; rfl, HB.out _ _⟩
    obtain ⟨hs1, hs2, hs3⟩ := HST.out k hlt
    have hb := HBD.out k
    have HS1 := Lib.hid hs1
    have hlt' : (k : Int) < s.size + n := by omega
    clear HBD HST HTZ HTN hs1
    generalize valD 0 (z.take k) = v at *
    have hv6 : (v : Int) < 1000000 := by omega
    by_cases hks : k < s.size
    case pos =>
      rw [dif_pos hks] at hs2 hs3
      rw [dif_pos hks] at HS1
      have hi1 : (48 : Int) ≤ (s[k].toNat : Int) := by omega
      have hi2 : (s[k].toNat : Int) ≤ 57 := by omega
      clear hs2 hs3
      go_wp2_with fail
      exact ⟨⟨k + 1, by go_num, by omega, congrArg (Value.int .i64) (by have := HS1.out; omega)⟩, by simp [intOf]; omega⟩
    case neg =>
      rw [dif_neg hks] at HS1
      have hi1 : ¬ ((k : Int) < s.size) := by omega
      clear hs2 hs3 hks
      go_wp2_with fail
      exact ⟨⟨k + 1, by go_num, by omega, congrArg (Value.int .i64) (by have h := HS1.out; have h48 : ((48 : UInt8).toNat) = 48 := rfl; omega)⟩, by simp [intOf]; omega⟩
end Go.Proofs.YthdninnjjmhpfaaGreatDoor

namespace Go.Proofs.YthdninnjjmhpfaaGreatDoor
open Go.RowKit
set_option maxHeartbeats 1000000
set_option maxRecDepth 100000

/-! Valid UTF-8. -/
theorem valid_pre (a t : List UInt8) (ha : ∀ b ∈ a, b.toNat < 128) (h : badL t = t.length) : badL (a ++ t) = (a ++ t).length := by
  induction a with
  | nil => exact h
  | cons b a ih => exact valid_ascii b (a ++ t) (ha b (by simp)) (ih fun c hc => ha c (by simp [hc]))
theorem valid_app : ∀ (f : Nat) (l t : List UInt8), l.length ≤ f → badL l = l.length → badL t = t.length → badL (l ++ t) = (l ++ t).length
  | 0, l, t, hf, _, ht => by
    obtain rfl : l = [] := List.length_eq_zero_iff.1 (by omega)
    exact ht
  | f + 1, l, t, hf, hl, ht => by
    rcases valid_cons l hl with rfl | ⟨h0, h1⟩
    · exact ht
    have hle := dec_le l
    have hd : dec (l ++ t) = dec l := dec_app l t h0
    refine valid_step (l ++ t) (by rw [hd]; exact h0) ?_
    rw [hd, List.drop_append_of_le_length hle]
    exact valid_app f (l.drop (dec l).2) t (by rw [List.length_drop]; omega) h1 ht
theorem hx_lt : ∀ n : Fin 16, (hx n.val).toNat < 128 ∧ (hx n.val).toNat ≠ 93 ∧ hexd1 (hx n.val) = some n.val := by decide +kernel
theorem sgn_ascii : ∀ n : Fin 128, ∀ c ∈ sgn (UInt8.ofNat n.val), c.toNat < 128 := by decide +kernel
theorem sgn_high (c : UInt8) (h : 128 ≤ c.toNat) : sgn c = [c] := by
  unfold sgn
  rw [if_neg (by omega), if_neg (by omega), if_neg (by omega), if_neg (by omega), if_neg (by omega), if_neg (by omega)]
theorem sgn_low (c : UInt8) (h : c.toNat < 128) : ∀ b ∈ sgn c, b.toNat < 128 := by
  have := sgn_ascii ⟨c.toNat, h⟩
  simpa using this
theorem flat_high (l : List UInt8) (h : ∀ c ∈ l, 128 ≤ c.toNat) : l.flatMap sgn = l := by
  induction l with
  | nil => rfl
  | cons c t ih =>
    rw [List.flatMap_cons, sgn_high c (h c (by simp)), ih (fun d hd => h d (by simp [hd]))]
    rfl
theorem valid_quote : ∀ (f : Nat) (l t : List UInt8), l.length ≤ f → badL l = l.length → badL t = t.length → badL (l.flatMap sgn ++ t) = (l.flatMap sgn ++ t).length
  | 0, l, t, hf, _, ht => by
    obtain rfl : l = [] := List.length_eq_zero_iff.1 (by omega)
    exact ht
  | f + 1, l, t, hf, hl, ht => by
    rcases valid_cons l hl with rfl | ⟨h0, h1⟩
    · exact ht
    have hle := dec_le l
    have ih := valid_quote f (l.drop (dec l).2) t (by rw [List.length_drop]; omega) h1 ht
    by_cases h2 : (dec l).2 = 1
    · rcases l with _ | ⟨b, u⟩
      · exact ht
      rw [h2] at ih
      have hb := dec_one b u h2
      rw [List.flatMap_cons, List.append_assoc]
      exact valid_pre (sgn b) _ (sgn_low b hb) ih
    · have hh := high_bytes l h0 h2
      have hs : l = l.take (dec l).2 ++ l.drop (dec l).2 := (List.take_append_drop _ _).symm
      rw [hs, List.flatMap_append, flat_high _ hh, List.append_assoc]
      have hx : dec (l.take (dec l).2 ++ ((l.drop (dec l).2).flatMap sgn ++ t)) = dec l :=
        dec_congr l _ h0 (by rw [List.take_append_of_le_length (by rw [List.length_take]; omega), List.take_take, Nat.min_self])
      refine valid_step _ (by rw [hx]; exact h0) ?_
      rw [hx, List.drop_append, List.length_take, Nat.min_eq_left hle, Nat.sub_self, List.drop_of_length_le (by rw [List.length_take]; omega), List.nil_append, List.drop_zero]
      exact ih
theorem dec_ascii' : ∀ (u : Nat), ∀ b ∈ Lib.decDigits u, 48 ≤ b.toNat ∧ b.toNat ≤ 57 := by
  intro u
  induction u using Nat.strongRecOn with
  | _ u ih =>
    intro b hb
    rw [Lib.decDigits] at hb
    split at hb
    · simp only [List.mem_singleton] at hb
      subst hb
      rename_i h
      simp; omega
    · rw [List.mem_append, List.mem_singleton] at hb
      rcases hb with hb | rfl
      · exact ih _ (by omega) b hb
      · simp; omega
theorem valid_stepT (s : St) (t : List UInt8) (hs : okSt s = true) (ht : badL t = t.length) : badL (stepT s ++ t) = (stepT s ++ t).length := by
  obtain ⟨b, k, i⟩ := s
  unfold okSt at hs
  unfold stepT
  simp only [] at hs ⊢
  cases b with
  | true =>
    simp only [decide_eq_true_eq, if_pos] at hs ⊢
    refine valid_pre _ t ?_ ht
    intro c hc
    simp only [List.mem_cons, List.mem_append, List.not_mem_nil, or_false] at hc
    rcases hc with rfl | hc | rfl
    · decide
    · unfold Lib.itoa at hc
      rw [if_neg (by omega)] at hc
      have := dec_ascii' _ c hc
      omega
    · decide
  | false =>
    rw [if_neg (by simp)] at hs ⊢
    simp only [decide_eq_true_eq] at hs
    split
    · exact valid_ascii 46 _ (by decide) (valid_app _ _ t (Nat.le_refl _) hs.2.2 ht)
    · have h34 : badL (34 :: t) = (34 :: t).length := valid_ascii 34 t (by decide) ht
      have := valid_quote _ (L k) (34 :: t) (Nat.le_refl _) hs.2.2 h34
      simp only [List.cons_append, List.append_assoc, List.nil_append]
      exact valid_ascii 46 _ (by decide) (valid_ascii 34 _ (by decide) this)
theorem valid_flat : ∀ (p : List St), p.all okSt = true → badL (p.flatMap stepT) = (p.flatMap stepT).length
  | [], _ => rfl
  | s :: p, h => by
    simp only [List.all_cons, Bool.and_eq_true] at h
    rw [List.flatMap_cons]
    exact valid_stepT s _ h.1 (valid_flat p h.2)
theorem valid_textL (p : List St) (h : p.all okSt = true) : badL (textL p) = (textL p).length := by
  unfold textL
  rcases p with _ | ⟨s, p⟩
  · rfl
  rw [if_neg (by simp)]
  refine valid_pre _ _ ?_ (valid_flat _ h)
  intro c hc
  unfold preT at hc
  simp only [] at hc
  split at hc
  · simp only [List.mem_singleton] at hc; subst hc; decide
  · simp at hc

/-! A step is read back. -/
def ends (r : List UInt8) : Prop := r = [] ∨ ∃ b t, r = b :: t ∧ (b.toNat = 46 ∨ b.toNat = 91)
theorem nmL_app (k r : List UInt8) (h : nmL k = k.length) (hr : ends r) : nmL (k ++ r) = k.length := by
  induction k with
  | nil =>
    rcases hr with rfl | ⟨b, t, rfl, hb⟩
    · rfl
    · simp only [List.nil_append, List.length_nil]
      unfold nmL
      rw [if_neg]
      unfold nmc alpha dig
      simp only [Bool.or_eq_true, decide_eq_true_eq, not_or]
      exact ⟨⟨by omega, by omega⟩, by omega⟩
  | cons b k ih =>
    unfold nmL at h
    split at h
    · rename_i hb
      rw [List.cons_append]
      unfold nmL
      rw [if_pos hb, ih (by simpa using h)]
      rfl
    · simp at h
theorem folL_app (k r : List UInt8) (h : folL k = k.length) (h0 : k ≠ []) (hr : ends r) : folL (k ++ r) = k.length := by
  rcases k with _ | ⟨b, k⟩
  · exact absurd rfl h0
  simp only [folL] at h
  split at h
  · rename_i hb
    rw [List.cons_append]
    simp only [folL]
    rw [if_pos hb, nmL_app k r (by simpa using h) hr]
    rfl
  · simp at h
theorem idx93_app (d r : List UInt8) (h : ∀ b ∈ d, b.toNat ≠ 93) : idx93 (d ++ 93 :: r) = d.length := by
  induction d with
  | nil =>
    rw [List.nil_append]
    unfold idx93
    rw [if_pos (by decide)]
    rfl
  | cons b d ih =>
    rw [List.cons_append]
    unfold idx93
    rw [if_neg (h b (by simp)), ih fun c hc => h c (by simp [hc])]
    rfl
theorem decFrom_snoc (l : List UInt8) (b : UInt8) (d : Nat) (hd : Lib.digitVal b = some d) : ∀ acc n, Lib.decFrom acc l = some n → Lib.decFrom acc (l ++ [b]) = some (n * 10 + d) := by
  induction l with
  | nil =>
    intro acc n h
    simp only [Lib.decFrom, Option.some.injEq] at h
    subst h
    simp [Lib.decFrom, hd]
  | cons a t ih =>
    intro acc n h
    rw [List.cons_append]
    unfold Lib.decFrom at h ⊢
    cases ha : Lib.digitVal a with
    | none => rw [ha] at h; simp at h
    | some e =>
      rw [ha] at h
      exact ih _ n h
theorem decDigits_val (u : Nat) : Lib.decFrom 0 (Lib.decDigits u) = some u ∧ Lib.decDigits u ≠ [] := by
  induction u using Nat.strongRecOn with
  | _ u ih =>
    have hdg : ∀ d : Nat, d < 10 → Lib.digitVal (UInt8.ofNat (48 + d)) = some d := by
      intro d hd
      unfold Lib.digitVal
      rw [if_pos (by simp; omega)]
      simp; omega
    rw [Lib.decDigits]
    split
    · rename_i h
      refine ⟨?_, by simp⟩
      unfold Lib.decFrom
      rw [hdg u h]
      simp [Lib.decFrom]
    · rename_i h
      refine ⟨?_, by simp⟩
      rw [decFrom_snoc _ _ _ (hdg (u % 10) (by omega)) 0 (u / 10) (ih (u / 10) (by omega)).1]
      congr 1
      omega
theorem atoi_digits (u : Nat) : Lib.atoi (Lib.decDigits u) = some (u : Int) := by
  have h := decDigits_val u
  have ha := dec_ascii' u
  generalize Lib.decDigits u = l at *
  rcases l with _ | ⟨b, t⟩
  · exact absurd rfl h.2
  have hb := ha b (by simp)
  unfold Lib.atoi
  have n45 : (b == 45) = false := by
    rw [beq_eq_false_iff_ne]; rintro rfl; simp at hb
  have n43 : (b == 43) = false := by
    rw [beq_eq_false_iff_ne]; rintro rfl; simp at hb
  simp only [n45, n43, Bool.false_eq_true, if_false]
  unfold Lib.decNat
  simp [h.1]
theorem decDigits_len (u : Nat) (h : u ≤ 65536) : (Lib.decDigits u).length ≤ 5 := by
  rw [Lib.decDigits_length]
  rw [Lib.nDigits]; split
  · omega
  rw [Lib.nDigits]; split
  · omega
  rw [Lib.nDigits]; split
  · omega
  rw [Lib.nDigits]; split
  · omega
  rw [Lib.nDigits]; split
  · omega
  omega
theorem take_len (a r : List UInt8) : (a ++ r).take a.length = a := by simp
theorem drop_len (a r : List UInt8) : (a ++ r).drop a.length = r := by simp
theorem stepI_index (i : Int) (r : List UInt8) (h0 : 0 ≤ i) (h1 : i ≤ 65536) : stepI (91 :: (Lib.itoa i ++ 93 :: r)) = some ((true, ⟨#[]⟩, i), r) := by
  obtain ⟨u, rfl⟩ : ∃ u : Nat, i = (u : Int) := ⟨i.toNat, by omega⟩
  have hi : Lib.itoa (u : Int) = Lib.decDigits u := by unfold Lib.itoa; rw [if_neg (by omega)]; simp
  have hl := decDigits_len u (by omega)
  have hd := dec_ascii' u
  have hv := decDigits_val u
  have ha := atoi_digits u
  rw [hi]
  generalize Lib.decDigits u = d at *
  have hx := idx93_app d r (fun b hb => by have := hd b hb; omega)
  have hn : d.length ≠ 0 := by
    intro h
    exact hv.2 (List.length_eq_zero_iff.1 h)
  rw [stepI_cons, if_pos (by decide), hx, if_neg (by rw [not_or, not_or]; exact ⟨hn, by omega, by rw [List.length_append, List.length_cons]; omega⟩), take_len, ha]
  simp only []
  rw [List.drop_append, Nat.add_sub_cancel_left, List.drop_of_length_le (by omega)]
  rfl
theorem stepI_name (k r : List UInt8) (h : isName k = true) (hr : ends r) : stepI (46 :: (k ++ r)) = some ((false, ⟨k.toArray⟩, 0), r) := by
  unfold isName at h
  simp only [decide_eq_true_eq] at h
  have hf := folL_app k r h.2 h.1 hr
  have hp : 0 < k.length := List.length_pos_iff.2 h.1
  have hh : ¬ ((k ++ r).head? = some 34) := by
    intro he
    rcases k with _ | ⟨b, k⟩
    · exact h.1 rfl
    simp at he
    subst he
    have := h.2
    simp only [folL] at this
    rw [if_neg (by decide)] at this
    simp at this
  rw [stepI_cons, if_neg (by decide), if_neg (by rintro ⟨_, h⟩; exact hh h), if_pos ⟨by decide, by omega⟩, hf, take_len, drop_len]
theorem escI_back : ∀ n : Fin 128, (sgn (UInt8.ofNat n.val) = [UInt8.ofNat n.val] ∧ n.val ≠ 34 ∧ n.val ≠ 92) ∨ (∃ e : Fin 128, sgn (UInt8.ofNat n.val) = [92, UInt8.ofNat e.val] ∧ e.val ≠ 117 ∧ escI [UInt8.ofNat e.val] = (n.val, 1)) ∨ (sgn (UInt8.ofNat n.val) = [92, 117, 123, hx n.val, 125] ∧ n.val < 16) ∨ (sgn (UInt8.ofNat n.val) = [92, 117, 123, hx (n.val / 16), hx (n.val % 16), 125] ∧ 16 ≤ n.val) := by decide +kernel
theorem escI_one (b : UInt8) (u : List UInt8) (h : b.toNat ≠ 117) : escI (b :: u) = escI [b] := by
  rw [escI_cons, escI_cons, if_neg (c := b.toNat = 117) h, if_neg (c := b.toNat = 117) h]
theorem ues_one (n : Nat) (h : n < 16) (u : List UInt8) : ues (123 :: hx n :: 125 :: u) = (n, 4) := by
  have := hx_lt ⟨n, h⟩
  simp [ues, hexs, this.2.2]
theorem ues_two (n : Nat) (h : n < 128) (u : List UInt8) : ues (123 :: hx (n / 16) :: hx (n % 16) :: 125 :: u) = (n, 5) := by
  have h1 := hx_lt ⟨n / 16, by omega⟩
  have h2 := hx_lt ⟨n % 16, by omega⟩
  have h3 : ∀ m : Fin 16, ¬ hx m.val = 125 := by decide +kernel
  have h4 := h3 ⟨n % 16, by omega⟩
  simp only [] at h1 h2 h4
  simp [ues, hexs, h1.2.2, h2.2.2, h4]
  omega
theorem unqF_byte (f : Nat) (b : UInt8) (u : List UInt8) (o : List UInt8 × Nat) (h : unqF f u = some o) : unqF (f + 1) (sgn b ++ u) = some (b :: o.1, o.2 + (sgn b).length) := by
  by_cases hb : b.toNat < 128
  · have hcase := escI_back ⟨b.toNat, hb⟩
    simp only [UInt8.ofNat_toNat] at hcase
    rcases hcase with ⟨h1, h2, h3⟩ | ⟨e, h1, h2, h3⟩ | ⟨h1, h2⟩ | ⟨h1, h2⟩
    · rw [h1]
      simp only [List.cons_append, List.nil_append]
      rw [unqF_cons, if_neg h2, if_neg h3, h]
      rfl
    · rw [h1]
      have he : escI (UInt8.ofNat e.val :: u) = (b.toNat, 1) := by
        rw [escI_one _ _ (by simp; have := e.isLt; omega), h3]
      simp only [List.cons_append, List.nil_append]
      rw [unqF_cons, if_neg (by decide), if_pos (by decide), he]
      simp [h]
    · rw [h1]
      have he : escI (117 :: 123 :: hx b.toNat :: 125 :: u) = (b.toNat, 4) := by
        rw [escI_cons, if_neg (by decide), if_neg (by decide), if_neg (by decide), if_neg (by decide), if_pos (by decide), ues_one _ h2]
      simp only [List.cons_append, List.nil_append]
      rw [unqF_cons, if_neg (by decide), if_pos (by decide), he]
      simp [h]
    · rw [h1]
      have he : escI (117 :: 123 :: hx (b.toNat / 16) :: hx (b.toNat % 16) :: 125 :: u) = (b.toNat, 5) := by
        rw [escI_cons, if_neg (by decide), if_neg (by decide), if_neg (by decide), if_neg (by decide), if_pos (by decide), ues_two _ hb]
      simp only [List.cons_append, List.nil_append]
      rw [unqF_cons, if_neg (by decide), if_pos (by decide), he]
      simp [h]
  · rw [sgn_high b (by omega)]
    simp only [List.cons_append, List.nil_append]
    rw [unqF_cons, if_neg (by omega), if_neg (by omega), h]
    rfl
theorem unqF_back : ∀ (k r : List UInt8) (f : Nat), k.length < f → unqF f (k.flatMap sgn ++ 34 :: r) = some (k, (k.flatMap sgn).length + 1)
  | [], r, f, h => by
    obtain ⟨f, rfl⟩ : ∃ g, f = g + 1 := ⟨f - 1, by simp at h; omega⟩
    simp [unqF]
  | b :: k, r, f, h => by
    obtain ⟨f, rfl⟩ : ∃ g, f = g + 1 := ⟨f - 1, by simp at h; omega⟩
    rw [List.flatMap_cons, List.append_assoc, unqF_byte f b _ _ (unqF_back k r f (by simp at h; omega))]
    simp only [List.length_append]
    congr 2
    omega
theorem flat_len (k : List UInt8) : k.length ≤ (k.flatMap sgn).length := by
  induction k with
  | nil => exact Nat.le_refl _
  | cons b k ih =>
    have : 1 ≤ (sgn b).length := by
      unfold sgn
      repeat' split
      all_goals simp
    rw [List.flatMap_cons, List.length_append, List.length_cons]
    omega
theorem stepI_quoted (k r : List UInt8) : stepI (46 :: 34 :: (k.flatMap sgn ++ 34 :: r)) = some ((false, ⟨k.toArray⟩, 0), r) := by
  have := flat_len k
  rw [stepI_cons, if_neg (by decide), if_pos ⟨by decide, rfl⟩]
  simp only [List.drop_succ_cons, List.drop_zero]
  rw [unqF_back k r _ (by simp only [List.length_cons, List.length_append]; omega)]
  simp only []
  rw [show (k.flatMap sgn).length + 1 = (k.flatMap sgn ++ [34]).length by rw [List.length_append]; rfl, show k.flatMap sgn ++ 34 :: r = (k.flatMap sgn ++ [34]) ++ r by simp, drop_len]
theorem stepI_back (s : St) (r : List UInt8) (hs : okSt s = true) (hr : ends r) : stepI (stepT s ++ r) = some (s, r) := by
  obtain ⟨b, k, i⟩ := s
  unfold okSt at hs
  unfold stepT
  simp only [] at hs ⊢
  cases b with
  | true =>
    simp only [decide_eq_true_eq, if_pos] at hs ⊢
    have hk : k = ⟨#[]⟩ := L_inj (List.length_eq_zero_iff.1 (by rw [L_len]; exact hs.1))
    subst hk
    simp only [List.cons_append, List.append_assoc, List.nil_append]
    exact stepI_index i r hs.2.1 hs.2.2
  | false =>
    rw [if_neg (by simp)] at hs ⊢
    simp only [decide_eq_true_eq] at hs
    obtain ⟨rfl, _⟩ := hs
    split
    · rename_i hn
      exact stepI_name (L k) r hn hr
    · simp only [List.cons_append, List.append_assoc, List.nil_append]
      exact stepI_quoted (L k) r
theorem ends_flat (p : List St) : ends (p.flatMap stepT) := by
  rcases p with _ | ⟨s, p⟩
  · exact .inl rfl
  right
  unfold stepT
  rw [List.flatMap_cons]
  split
  · exact ⟨91, _, rfl, by decide⟩
  · split
    · exact ⟨46, _, rfl, by decide⟩
    · exact ⟨46, _, rfl, by decide⟩
theorem stepT_ne (s : St) : stepT s ≠ [] := by
  unfold stepT
  repeat' split
  all_goals simp
theorem loopI_back : ∀ (p : List St) (f k : Nat), p.all okSt = true → k + p.length ≤ 48 → p.length < f → loopI f k (p.flatMap stepT) = some p
  | [], f, k, _, _, hf => by
    obtain ⟨f, rfl⟩ : ∃ g, f = g + 1 := ⟨f - 1, by simp at hf; omega⟩
    simp [loopI]
  | s :: p, f, k, h, hk, hf => by
    obtain ⟨f, rfl⟩ : ∃ g, f = g + 1 := ⟨f - 1, by simp at hf; omega⟩
    simp only [List.all_cons, Bool.and_eq_true] at h
    simp only [List.length_cons] at hk hf
    rw [List.flatMap_cons]
    unfold loopI
    rw [if_neg (by simp [stepT_ne]; omega), stepI_back s _ h.1 (ends_flat p)]
    simp only []
    rw [loopI_back p f (k + 1) h.2 (by omega) (by omega)]
    rfl
theorem strip_text (p : List St) (h0 : p ≠ []) (h : p.all okSt = true) : strip (textL p) = p.flatMap stepT := by
  rcases p with _ | ⟨⟨b, k, i⟩, p⟩
  · exact absurd rfl h0
  unfold textL
  rw [if_neg (by simp)]
  unfold preT
  simp only []
  cases b with
  | true =>
    rw [if_pos rfl, List.flatMap_cons]
    simp [stepT, strip]
  | false =>
    rw [if_neg (by simp), List.nil_append]
    unfold strip
    rw [if_neg]
    rw [List.flatMap_cons]
    intro he
    unfold stepT at he
    simp only [Bool.false_eq_true, if_false] at he
    split at he
    · rename_i hn
      unfold isName at hn
      simp only [decide_eq_true_eq] at hn
      generalize L k = l at *
      rcases l with _ | ⟨c, l⟩
      · exact hn.1 rfl
      simp only [List.cons_append, List.take_succ_cons, List.take_zero, List.cons.injEq, and_true, true_and] at he
      subst he
      have := hn.2
      simp only [folL] at this
      rw [if_neg (by decide)] at this
      simp at this
    · simp only [List.cons_append, List.take_succ_cons, List.take_zero, List.cons.injEq, and_true, true_and] at he
      exact absurd he (by decide)
theorem all_ok {p : List St} (h : validP p = true) : p.all okSt = true ∧ p.length ≤ 48 := by
  unfold validP at h
  simp only [Bool.and_eq_true, decide_eq_true_eq] at h
  exact ⟨h.2, h.1⟩
/-- What the program makes of a valid path's text. -/
theorem loop_text (p : List St) (h0 : p ≠ []) (h : validP p = true) : loopI 49 0 (strip (textL p)) = some p := by
  obtain ⟨h1, h2⟩ := all_ok h
  rw [strip_text p h0 h1]
  exact loopI_back p 49 0 h1 (by omega) (by omega)
theorem text_dot (p : List St) (h0 : p ≠ []) (h : validP p = true) : textL p ≠ [46] := by
  intro he
  have h1 := loop_text p h0 h
  rw [he] at h1
  have : loopI 49 0 (strip [46]) = none := by decide +kernel
  rw [this] at h1
  cases h1
theorem parse_text (p : List St) (h : validP p = true) : parseL (textL p) = (p, 0) := by
  unfold parseL
  rw [if_neg (by rw [valid_textL p (all_ok h).1]; simp)]
  by_cases h0 : p = []
  · subst h0; rfl
  rw [if_neg (text_dot p h0 h), loop_text p h0 h]
  unfold accept
  simp only []
  rw [if_pos ⟨h0, h, trivial⟩]
/-- Different valid paths have different texts. -/
theorem text_inj {p q : List St} (hp : validP p = true) (hq : validP q = true) (h : textL p = textL q) : p = q := by
  have h1 := parse_text p hp
  rw [h, parse_text q hq] at h1
  exact (congrArg Prod.fst h1).symm
end Go.Proofs.YthdninnjjmhpfaaGreatDoor

namespace Go.Proofs.YthdninnjjmhpfaaGreatDoor
open Go.RowKit
set_option maxHeartbeats 1000000
set_option maxRecDepth 100000

def digR (acc : Nat) : Nat → List UInt8 → Nat × Nat
  | 0, _ => (acc, 0)
  | _ + 1, [] => (acc, 0)
  | f + 1, b :: t => if dig b then ((digR (10 * acc + (b.toNat - 48)) f t).1, (digR (10 * acc + (b.toNat - 48)) f t).2 + 1) else (acc, 0)
def unsP (s : List UInt8) (n : Nat) : Bool := decide (1 < (sgn (UInt8.ofNat n)).length) && (sgn (UInt8.ofNat n)).isPrefixOf s
def unsR (s : List UInt8) : Nat × Nat := match (List.range 128).find? (unsP s) with
  | some n => (n, (sgn (UInt8.ofNat n)).length)
  | none => match s with
    | b :: _ => if b.toNat ≠ 34 ∧ b.toNat ≠ 92 then (b.toNat, 1) else (0, 0)
    | [] => (0, 0)
def quoF : Nat → List UInt8 → Option (List UInt8 × Nat)
  | 0, _ => none
  | _ + 1, [] => none
  | f + 1, b :: t => if b.toNat = 34 then some ([], 1) else if (unsR (b :: t)).2 = 0 then none else (quoF f ((b :: t).drop (unsR (b :: t)).2)).map fun r => (UInt8.ofNat (unsR (b :: t)).1 :: r.1, r.2 + (unsR (b :: t)).2)
def stepR : List UInt8 → Option (St × Nat)
  | [] => none
  | c :: t => if c.toNat = 91 then
      (if (digR 0 8 t).2 = 0 ∨ t[(digR 0 8 t).2]? ≠ some 93 then none else some ((true, ⟨#[]⟩, ((digR 0 8 t).1 : Int)), (digR 0 8 t).2 + 2))
    else if c.toNat ≠ 46 ∨ t = [] then none
    else if t.head? = some 34 then match quoF t.length (t.drop 1) with
      | some r => some ((false, ⟨r.1.toArray⟩, 0), r.2 + 2)
      | none => none
    else some ((false, ⟨(t.take (nmL t)).toArray⟩, 0), nmL t + 1)
def loopR : Nat → Nat → List UInt8 → Option (List St)
  | 0, _, _ => none
  | f + 1, k, l => if l = [] then some [] else match stepR l with
    | some r => if 48 ≤ k then none else (loopR f (k + 1) (l.drop r.2)).map fun p => r.1 :: p
    | none => none
def acceptR (s : List UInt8) (o : Option (List St)) : List St × Nat := match o with
  | some p => if validP p = true ∧ textL p = s then (p, 0) else ([], 3)
  | none => ([], 3)
def parseR (s : List UInt8) : List St × Nat :=
  if badL s ≠ s.length then ([], 5) else if s = [46] then ([], 0) else acceptR s (loopR 49 0 (strip s))

theorem stepR_cons (c : UInt8) (t : List UInt8) : stepR (c :: t) = if c.toNat = 91 then
      (if (digR 0 8 t).2 = 0 ∨ t[(digR 0 8 t).2]? ≠ some 93 then none else some ((true, ⟨#[]⟩, ((digR 0 8 t).1 : Int)), (digR 0 8 t).2 + 2))
    else if c.toNat ≠ 46 ∨ t = [] then none
    else if t.head? = some 34 then match quoF t.length (t.drop 1) with
      | some r => some ((false, ⟨r.1.toArray⟩, 0), r.2 + 2)
      | none => none
    else some ((false, ⟨(t.take (nmL t)).toArray⟩, 0), nmL t + 1) := rfl
theorem quoF_cons (f : Nat) (b : UInt8) (t : List UInt8) : quoF (f + 1) (b :: t) = if b.toNat = 34 then some ([], 1) else if (unsR (b :: t)).2 = 0 then none else (quoF f ((b :: t).drop (unsR (b :: t)).2)).map fun r => (UInt8.ofNat (unsR (b :: t)).1 :: r.1, r.2 + (unsR (b :: t)).2) := rfl

theorem digR_app (d r : List UInt8) : ∀ (acc n f : Nat), Lib.decFrom acc d = some n → d.length ≤ f → digR acc f (d ++ 93 :: r) = (n, d.length) := by
  induction d with
  | nil =>
    intro acc n f h _
    simp only [Lib.decFrom, Option.some.injEq] at h
    subst h
    rcases f with _ | f
    · rfl
    · simp only [List.nil_append, digR]
      rw [if_neg (by decide)]
      rfl
  | cons b d ih =>
    intro acc n f h hf
    obtain ⟨f, rfl⟩ : ∃ g, f = g + 1 := ⟨f - 1, by simp at hf; omega⟩
    unfold Lib.decFrom at h
    cases hb : Lib.digitVal b with
    | none => rw [hb] at h; simp at h
    | some e =>
      rw [hb] at h
      simp only [] at h
      have hdb : dig b = true ∧ e = b.toNat - 48 := by
        unfold Lib.digitVal at hb
        split at hb
        · rename_i hc
          simp only [Option.some.injEq] at hb
          exact ⟨by unfold dig; simpa using hc, hb.symm⟩
        · cases hb
      obtain ⟨h1, rfl⟩ := hdb
      have := ih (10 * acc + (b.toNat - 48)) n f (by rw [Nat.mul_comm]; exact h) (by simp at hf; omega)
      simp only [List.cons_append, digR]
      rw [if_pos h1, this]
      rfl
theorem sgn_free : ∀ j b : Fin 128, 1 < (sgn (UInt8.ofNat j.val)).length → 1 < (sgn (UInt8.ofNat b.val)).length → j ≠ b → (sgn (UInt8.ofNat j.val)).isPrefixOf (sgn (UInt8.ofNat b.val)) = false := by decide +kernel
theorem sgn_kind : ∀ b : Fin 128, (1 < (sgn (UInt8.ofNat b.val)).length ∧ (sgn (UInt8.ofNat b.val)).head? = some 92) ∨ (sgn (UInt8.ofNat b.val) = [UInt8.ofNat b.val] ∧ b.val ≠ 34 ∧ b.val ≠ 92) := by decide +kernel
theorem uns_none (b : UInt8) (u : List UInt8) (h : b.toNat ≠ 92) : (List.range 128).find? (unsP (b :: u)) = none := by
  rw [List.find?_eq_none]
  intro n hn
  have hn' := List.mem_range.1 hn
  unfold unsP
  simp only [Bool.and_eq_true, decide_eq_true_eq, not_and]
  intro h1 h2
  rcases sgn_kind ⟨n, hn'⟩ with ⟨_, h3⟩ | ⟨h3, _⟩
  · simp only [] at h3
    generalize sgn (UInt8.ofNat n) = l at *
    rcases l with _ | ⟨c, l⟩
    · cases h3
    simp only [List.head?_cons, Option.some.injEq] at h3
    subst h3
    simp only [List.isPrefixOf_cons_cons, Bool.and_eq_true, beq_iff_eq] at h2
    rw [← h2.1] at h
    exact h (by decide)
  · simp only [] at h3
    rw [h3] at h1
    simp at h1
theorem unsR_back (b : UInt8) (u : List UInt8) : unsR (sgn b ++ u) = (b.toNat, (sgn b).length) := by
  have plain : sgn b = [b] → b.toNat ≠ 34 → b.toNat ≠ 92 → unsR (sgn b ++ u) = (b.toNat, (sgn b).length) := by
    intro h1 h2 h3
    rw [h1]
    unfold unsR
    rw [List.cons_append, uns_none b _ h3]
    simp only []
    rw [if_pos ⟨h2, h3⟩]
    rfl
  by_cases hb : b.toNat < 128
  · rcases sgn_kind ⟨b.toNat, hb⟩ with ⟨h1, h2⟩ | ⟨h1, h2, h3⟩
    · simp only [UInt8.ofNat_toNat] at h1 h2
      have hf : (List.range 128).find? (unsP (sgn b ++ u)) = some b.toNat := by
        rw [List.find?_range_eq_some]
        refine ⟨?_, List.mem_range.2 hb, ?_⟩
        · unfold unsP
          rw [UInt8.ofNat_toNat]
          simp only [Bool.and_eq_true, decide_eq_true_eq, List.isPrefixOf_iff_prefix]
          exact ⟨h1, List.prefix_append _ _⟩
        · intro j hj
          have hj' : j < 128 := by omega
          unfold unsP
          simp only [Bool.not_eq_true', Bool.and_eq_false_iff, decide_eq_false_iff_not]
          by_cases hl : 1 < (sgn (UInt8.ofNat j)).length
          · right
            have hne : (⟨j, hj'⟩ : Fin 128) ≠ ⟨b.toNat, hb⟩ := by intro h; simp only [Fin.mk.injEq] at h; omega
            have f1 := sgn_free ⟨j, hj'⟩ ⟨b.toNat, hb⟩ hl (by simpa using h1) hne
            have f2 := sgn_free ⟨b.toNat, hb⟩ ⟨j, hj'⟩ (by simpa using h1) hl hne.symm
            simp only [UInt8.ofNat_toNat] at f1 f2
            rw [Bool.eq_false_iff] at f1 f2 ⊢
            simp only [ne_eq, List.isPrefixOf_iff_prefix] at f1 f2 ⊢
            intro hp
            rcases List.prefix_or_prefix_of_prefix hp (List.prefix_append (sgn b) u) with h | h
            · exact f1 h
            · exact f2 h
          · left; exact hl
      unfold unsR
      rw [hf]
      simp only [UInt8.ofNat_toNat]
    · simp only [UInt8.ofNat_toNat] at h1
      exact plain h1 h2 h3
  · exact plain (sgn_high b (by omega)) (by omega) (by omega)
theorem sgn_pos (b : UInt8) : 1 ≤ (sgn b).length := by
  unfold sgn
  repeat' split
  all_goals simp
theorem sgn_head (b : UInt8) : ∃ c t, sgn b = c :: t ∧ c.toNat ≠ 34 := by
  by_cases hb : b.toNat < 128
  · rcases sgn_kind ⟨b.toNat, hb⟩ with ⟨h1, h2⟩ | ⟨h1, h2, h3⟩
    · simp only [UInt8.ofNat_toNat] at h1 h2
      generalize sgn b = l at *
      rcases l with _ | ⟨c, l⟩
      · cases h2
      simp only [List.head?_cons, Option.some.injEq] at h2
      exact ⟨c, l, rfl, by rw [h2]; decide⟩
    · simp only [UInt8.ofNat_toNat] at h1
      exact ⟨b, [], h1, h2⟩
  · exact ⟨b, [], sgn_high b (by omega), by omega⟩
theorem quoF_back : ∀ (k r : List UInt8) (f : Nat), k.length < f → quoF f (k.flatMap sgn ++ 34 :: r) = some (k, (k.flatMap sgn).length + 1)
  | [], r, f, h => by
    obtain ⟨f, rfl⟩ : ∃ g, f = g + 1 := ⟨f - 1, by simp at h; omega⟩
    simp [quoF]
  | b :: k, r, f, h => by
    obtain ⟨f, rfl⟩ : ∃ g, f = g + 1 := ⟨f - 1, by simp at h; omega⟩
    have ih := quoF_back k r f (by simp at h; omega)
    rw [List.flatMap_cons, List.append_assoc]
    have hu := unsR_back b (k.flatMap sgn ++ 34 :: r)
    have hp := sgn_pos b
    obtain ⟨c, t, hc, h34⟩ := sgn_head b
    have hd : (sgn b ++ (k.flatMap sgn ++ 34 :: r)).drop (sgn b).length = k.flatMap sgn ++ 34 :: r := drop_len _ _
    generalize hn : (sgn b).length = n at *
    rw [hc] at hu hd ⊢
    rw [List.cons_append] at hu hd ⊢
    rw [quoF_cons, if_neg h34, hu]
    simp only []
    rw [if_neg (by omega), hd, ih]
    simp only [Option.map_some, UInt8.ofNat_toNat, List.length_append, Option.some.injEq, Prod.mk.injEq, true_and]
    rw [← hc, hn]
    omega
theorem stepR_back (s : St) (r : List UInt8) (hs : okSt s = true) (hr : ends r) : stepR (stepT s ++ r) = some (s, (stepT s).length) := by
  obtain ⟨b, k, i⟩ := s
  unfold okSt at hs
  unfold stepT
  simp only [] at hs ⊢
  cases b with
  | true =>
    simp only [decide_eq_true_eq, if_pos] at hs ⊢
    have hk : k = ⟨#[]⟩ := L_inj (List.length_eq_zero_iff.1 (by rw [L_len]; exact hs.1))
    subst hk
    obtain ⟨u, rfl⟩ : ∃ u : Nat, i = (u : Int) := ⟨i.toNat, by omega⟩
    have hi : Lib.itoa (u : Int) = Lib.decDigits u := by unfold Lib.itoa; rw [if_neg (by omega)]; simp
    have hl := decDigits_len u (by omega)
    have hv := decDigits_val u
    rw [hi]
    generalize Lib.decDigits u = d at *
    have hn : d.length ≠ 0 := by
      intro h
      exact hv.2 (List.length_eq_zero_iff.1 h)
    simp only [List.cons_append, List.append_assoc, List.nil_append]
    rw [stepR_cons, if_pos (by decide), digR_app d r 0 u 8 hv.1 (by omega)]
    simp only []
    rw [if_neg]
    · simp
    · rw [not_or]
      exact ⟨hn, by simp⟩
  | false =>
    rw [if_neg (by simp)] at hs ⊢
    simp only [decide_eq_true_eq] at hs
    obtain ⟨rfl, _⟩ := hs
    split
    · rename_i hn
      unfold isName at hn
      simp only [decide_eq_true_eq] at hn
      obtain ⟨h0, hf⟩ := hn
      have hk : k = ⟨(L k).toArray⟩ := rfl
      rw [hk]
      generalize L k = l at *
      have hnm : nmL l = l.length := by
        rcases l with _ | ⟨c, l⟩
        · rfl
        simp only [folL] at hf
        split at hf
        · rename_i hc
          simp only [nmL]
          rw [hc, Bool.true_or, if_pos rfl]
          exact hf
        · simp at hf
      have ha := nmL_app l r hnm hr
      have hh : ¬ ((l ++ r).head? = some 34) := by
        intro he
        rcases l with _ | ⟨c, l⟩
        · exact h0 rfl
        simp at he
        subst he
        simp only [folL] at hf
        rw [if_neg (by decide)] at hf
        simp at hf
      rw [show L ({ data := l.toArray } : ByteArray) = l from rfl, List.cons_append, stepR_cons, if_neg (by decide), if_neg (by rw [not_or]; exact ⟨by decide, by simp [h0]⟩), if_neg hh, ha, take_len]
      rfl
    · have hfl := flat_len (L k)
      simp only [List.cons_append, List.append_assoc, List.nil_append]
      rw [stepR_cons, if_neg (by decide), if_neg (by rw [not_or]; exact ⟨by decide, by simp⟩), if_pos (by rfl)]
      simp only [List.drop_succ_cons, List.drop_zero]
      rw [quoF_back (L k) r _ (by simp only [List.length_cons, List.length_append]; omega)]
      simp only [mk_L, List.length_cons, List.length_append, List.length_nil]
theorem loopR_back : ∀ (p : List St) (f k : Nat), p.all okSt = true → k + p.length ≤ 48 → p.length < f → loopR f k (p.flatMap stepT) = some p
  | [], f, k, _, _, hf => by
    obtain ⟨f, rfl⟩ : ∃ g, f = g + 1 := ⟨f - 1, by simp at hf; omega⟩
    simp [loopR]
  | s :: p, f, k, h, hk, hf => by
    obtain ⟨f, rfl⟩ : ∃ g, f = g + 1 := ⟨f - 1, by simp at hf; omega⟩
    simp only [List.all_cons, Bool.and_eq_true] at h
    simp only [List.length_cons] at hk hf
    rw [List.flatMap_cons]
    unfold loopR
    rw [if_neg (by simp [stepT_ne]), stepR_back s _ h.1 (ends_flat p)]
    simp only []
    rw [if_neg (by omega), drop_len, loopR_back p f (k + 1) h.2 (by omega) (by omega)]
    rfl
theorem loopR_text (p : List St) (h0 : p ≠ []) (h : validP p = true) : loopR 49 0 (strip (textL p)) = some p := by
  obtain ⟨h1, h2⟩ := all_ok h
  rw [strip_text p h0 h1]
  exact loopR_back p 49 0 h1 (by omega) (by omega)
/-- The reference reads as the program does. -/
theorem parse_same (s : List UInt8) : parseR s = parseL s := by
  unfold parseR parseL
  by_cases hb : badL s ≠ s.length
  · rw [if_pos hb, if_pos hb]
  rw [if_neg hb, if_neg hb]
  by_cases hs : s = [46]
  · rw [if_pos hs, if_pos hs]
  rw [if_neg hs, if_neg hs]
  by_cases he : ∃ p, p ≠ [] ∧ validP p = true ∧ textL p = s
  · obtain ⟨p, h0, hv, rfl⟩ := he
    rw [loop_text p h0 hv, loopR_text p h0 hv]
    simp only [acceptR, accept]
    rw [if_pos ⟨hv, trivial⟩, if_pos ⟨h0, hv, trivial⟩]
  · have h1 : acceptR s (loopR 49 0 (strip s)) = ([], 3) := by
      unfold acceptR
      split
      · rename_i p _
        rw [if_neg]
        rintro ⟨hv, ht⟩
        refine he ⟨p, ?_, hv, ht⟩
        rintro rfl
        exact hs ht.symm
      · rfl
    have h2 : accept s (loopI 49 0 (strip s)) = ([], 3) := by
      unfold accept
      split
      · rename_i p _
        rw [if_neg]
        intro hc
        exact he ⟨p, hc⟩
      · rfl
    rw [h1, h2]
/-- What is read is valid and has the text. -/
theorem parse_sound (s : List UInt8) (h : (parseL s).2 = 0) : validP (parseL s).1 = true ∧ textL (parseL s).1 = s := by
  unfold parseL at h ⊢
  by_cases hb : badL s ≠ s.length
  · rw [if_pos hb] at h; cases h
  rw [if_neg hb] at h ⊢
  by_cases hs : s = [46]
  · rw [if_pos hs, hs]; exact ⟨rfl, rfl⟩
  rw [if_neg hs] at h ⊢
  unfold accept at h ⊢
  split at h
  · split at h
    · rename_i hc
      rw [if_pos hc]
      exact ⟨hc.2.1, hc.2.2⟩
    · cases h
  · cases h
end Go.Proofs.YthdninnjjmhpfaaGreatDoor

namespace Go.Proofs.YthdninnjjmhpfaaGreatDoor
open Go.RowKit Go.Shelf
set_option maxHeartbeats 1000000
set_option maxRecDepth 100000

theorem below_grow' (w : World) (k : Nat) (os : Array Obj) : Below w.heap.size w (Go.Sort.grow (w.drewN k) os) :=
  ⟨rfl, rfl, rfl, by show w.heap.size ≤ (w.heap ++ os).size; rw [Array.size_append]; omega, fun j hj => by show (w.heap ++ os)[j]? = w.heap[j]?; rw [Array.getElem?_append_left hj]⟩
theorem Itoa_any (n : Int) (h0 : 0 ≤ n) (h1 : n ≤ 65536) (w : World) (he : EnvT w) :
    Calls Tryz.prog 76 #[.int .i64 n] w fun e w' => e = .returned (.string ⟨(Lib.itoa n).toArray⟩) ∧ Below w.heap.size w w' := by
  refine (Tryz.strconv_Itoa n (by omega) (by omega) w he.1).mono ?_
  rintro e w' ⟨rfl, k, os, rfl⟩
  exact ⟨rfl, below_grow' w k os⟩
theorem Atoi_ok (s : ByteArray) (n : Int) (hl : s.size ≤ 18) (h : Lib.atoi (L s) = some n) (w : World) :
    Calls Tryz.prog 102 #[.string s] w fun e w' => e = .returned (.tuple #[.int .i64 n, .nilIface]) ∧ Below w.heap.size w w' := by
  refine (Tryz.strconv_Atoi s n hl h w).mono ?_
  rintro e w' ⟨rfl, t, rfl⟩
  exact ⟨rfl, Go.Joins.below_bytesWorld _ _ _ _ (Nat.le_refl _)⟩
theorem Atoi_no (s : ByteArray) (hl : s.size ≤ 18) (h : Lib.atoi (L s) = none) (w : World) (he : Env w) :
    Calls Tryz.prog 102 #[.string s] w fun e w' => (∃ N, e = .returned (.tuple #[.int .i64 0, .iface 176 (.pointer (some ⟨N, 0, none⟩))])) ∧ Below w.heap.size w w' := by
  obtain ⟨-, -, ev, hv, hev⟩ := he
  refine (Tryz.strconv_Atoi_err s hl h ev w hv hev).mono ?_
  rintro e w' ⟨N, rfl, _, _, hb⟩
  exact ⟨⟨N, rfl⟩, hb⟩

theorem itoa_len (n : Int) (h0 : 0 ≤ n) (h1 : n ≤ 65536) : (Lib.itoa n).length ≤ 5 := by
  unfold Lib.itoa
  rw [if_neg (by omega)]
  exact decDigits_len _ (by omega)
theorem sgn_len (b : UInt8) : (sgn b).length ≤ 6 := by
  unfold sgn
  have := hexT_len b.toNat
  repeat' split
  all_goals first | (simp; done) | (simp only [List.length_cons, List.length_append, List.length_nil]; omega)
theorem flat_len6 (l : List UInt8) : (l.flatMap sgn).length ≤ 6 * l.length := by
  induction l with
  | nil => exact Nat.le_refl _
  | cons b l ih =>
    have := sgn_len b
    rw [List.flatMap_cons, List.length_append, List.length_cons]
    omega
theorem okSt_at {l : List St} (h : l.all okSt = true) (k : Nat) (hk : k < l.length) : okSt l[k] = true := List.all_eq_true.1 h _ (List.getElem_mem hk)
theorem text_snoc (l : List St) (k : Nat) (h : k < l.length) : (l.take (k + 1)).flatMap stepT = (l.take k).flatMap stepT ++ stepT l[k] := by
  rw [List.take_succ_eq_append_getElem h, List.flatMap_append]
  simp
theorem PText_any (v : Value) (l : List St) (w : World) (h : Rd w v l) (hv : validP l = true) (he : EnvT w) :
    Calls Tryz.prog 35 #[v] w fun e w' => e = .returned (.string ⟨(textL l).toArray⟩) ∧ Below w.heap.size w w' := by
  obtain ⟨a, cap, rfl, hcap, hmax, _, hl⟩ := h
  obtain ⟨hok, h48⟩ := all_ok hv
  clear hv
  by_cases h0 : l = []
  · subst h0
    clear hl
    go_enter Tryz.func35, Tryz.ntmps35
    go_wp2_with fail
    go_ret
    exact ⟨rfl, Below.refl _ _⟩
  have hlen : 0 < l.length := List.length_pos_iff.2 h0
  obtain ⟨g, o, rfl, hg, hat⟩ := hl h0
  obtain ⟨c0, c1, c2⟩ := hat 0 hlen
  simp only [Nat.zero_mul, Nat.add_zero] at c0
  clear c1 c2 hl
  have HT : Hid (textL l = preT l ++ l.flatMap stepT) := by unfold Hid textL; rw [if_neg (by simp [h0])]
  have HP : Hid (preT l = if l[0].1 then [46] else []) := by
    unfold Hid
    cases l with
    | nil => exact absurd rfl h0
    | cons s p => rfl
  have HA := Lib.hid hat; clear hat
  have HOK := Lib.hid hok; clear hok
  have HE := Lib.hid he; clear he
  have hne0 : ((l.length : Int) == 0) = false := by rw [beq_eq_false_iff_ne]; omega
  clear h0
  cases hb : l[0].1
  case false =>
    rw [hb] at c0 HP
    clear hb
    have HPR : Hid (preT l = []) := HP.out
    clear HP
    go_enter Tryz.func35, Tryz.ntmps35
    go_wp2_with fail
    have hb1 : Below w.heap.size w w := Below.refl _ _
    have hst : ∃ acc : List UInt8, acc.length ≤ 1 ∧ acc = [] ∧ w.ownsRow w.heap.size 5 1 (.slice none 0 0) acc.length (acc.map bv) := ⟨[], by decide, rfl, World.ownsRow_nil _ _ _ _⟩
    have HST := Lib.hid hst; clear hst
    have HB1 := Lib.hid hb1
    go_loopw [3, 5, 18] (fun o _ n wr => ∃ (k : Nat) (acc : List UInt8), k ≤ l.length ∧ n = .int .i64 k ∧ acc.length ≤ 7000 * k + 1 ∧ wr.ownsRow w.heap.size 5 1 o acc.length (acc.map bv) ∧ Hid (acc = preT l ++ (l.take k).flatMap stepT) ∧ Below w.heap.size w wr) (fun _ _ n _ => l.length - (intOf n).toNat)
    case atStart =>
      obtain ⟨acc, ha, hacc, hown⟩ := HST.out
      exact ⟨0, acc, Nat.zero_le _, rfl, by omega, hown, by unfold Hid; rw [hacc, HPR.out]; rfl, HB1.out⟩
    case round =>
      clear HST HB1 hb1 c0 
      obtain ⟨k, acc, hk, rfl, hal, hown, HA2, hbw⟩ := hrel
      have hz := hbw.size
      by_cases hlt : k < l.length
      case neg =>
        obtain rfl : k = l.length := by omega
        have HX : Hid (textL l = acc) := by
          unfold Hid
          rw [HT.out, HA2.out, List.take_of_length_le (Nat.le_refl _)]
        clear HA2 HT HPR
        have hcv := conv_own bytesT hown
        go_wp2_with fail
        go_ret
        exact ⟨by rw [HX.out]; rfl, hbw⟩
      have hstep : ∀ cs, cs = stepT l[k] → Hid (acc ++ cs = preT l ++ (l.take (k + 1)).flatMap stepT) := by
        intro cs hcs
        unfold Hid
        rw [HA2.out, hcs, text_snoc l k hlt, List.append_assoc]
      have HS := Lib.hid hstep; clear hstep HA2
      obtain ⟨d0, d1, d2⟩ := HA.out k hlt
      have hs := okSt_at HOK.out k hlt
      rw [← hbw.cell (p := ⟨g, o + k * 3, none⟩) hg] at d0
      rw [← hbw.cell (p := ⟨g, o + k * 3 + 1, none⟩) hg] at d1
      rw [← hbw.cell (p := ⟨g, o + k * 3 + 2, none⟩) hg] at d2
      generalize l[k] = s at *
      obtain ⟨b, key, ix⟩ := s
      simp only [] at d0 d1 d2
      have hownC := hown.alloc (.cells #[.bool b, .string key, .int .i64 ix] 94)
      have hbwC : Below w.heap.size w (wr.alloc (.cells #[.bool b, .string key, .int .i64 ix] 94)) := hbw.alloc hz _
      have hzC := hbwC.size
      have HEC := Lib.hid (HE.out.below hbwC)
      have hg1 : g < wr.heap.size := by omega
      have HOC := Lib.hid hownC
      clear hown hownC
      cases b with
      | true =>
        rw [okSt_true, decide_eq_true_eq] at hs
        obtain ⟨_, hi0, hi1⟩ := hs
        have hle := itoa_len ix hi0 hi1
        have hi1' : Hid (ix ≤ 65536) := hi1
        clear hi1
        obtain ⟨H, hH⟩ : ∃ H : ByteArray, H = ⟨(Lib.itoa ix).toArray⟩ := ⟨_, rfl⟩
        have hLH : L H = Lib.itoa ix := by rw [hH]; rfl
        have hHs : H.size ≤ 5 := by rw [← L_len, hLH]; exact hle
        have hLT : L (⟨#[91]⟩ ++ H ++ ⟨#[93]⟩) = 91 :: (Lib.itoa ix ++ [93]) := by rw [L_append, L_append, hLH]; rfl
        have hTs : (⟨#[91]⟩ ++ H ++ ⟨#[93]⟩ : ByteArray).size ≤ 7 := by rw [← L_len, hLT]; simp only [List.length_cons, List.length_append, List.length_nil]; omega
        have HQ := HS.out (L (⟨#[91]⟩ ++ H ++ ⟨#[93]⟩)) (by rw [hLT]; rfl)
        have HC := Lib.hid (fun w' (h : EnvT w') => Itoa_any ix hi0 hi1'.out w' h)
        rw [← hH] at HC
        have HT7 := Lib.hid hTs
        have HLT7 : Hid ((L (⟨#[91]⟩ ++ H ++ ⟨#[93]⟩)).length ≤ 7) := by unfold Hid; rw [L_len]; exact hTs
        clear HS hH hLH hLT hTs hle
        go_wp2_with fail
        refine (HC.out _ HEC.out).mono ?_
        rintro e w2 ⟨rfl, hb2⟩
        have hown2 := own_below HOC.out hb2
        have hbw2 := hbwC.trans (hb2.mono hzC)
        have hz2 := hbw2.size
        have HS7 : Hid (acc.length + (⟨#[91]⟩ ++ H ++ ⟨#[93]⟩ : ByteArray).size < 100000000000000) := by have := HT7.out; unfold Hid; omega
        clear HOC HC hbwC hzC hb2
        go_wp2_with (at_builtin; refine wp_pushS bytesT rfl _ _ rfl hown2 (⟨#[91]⟩ ++ H ++ ⟨#[93]⟩) rfl rfl HS7.out hz2 ?_; intro v' w3 hown3 hg3 hb3)
        refine ⟨⟨k + 1, acc ++ L (⟨#[91]⟩ ++ H ++ ⟨#[93]⟩), by omega, rfl, ?_, ?_, HQ, hbw2.trans hb3⟩, by simp [intOf]; omega⟩
        · rw [List.length_append]; have := HLT7.out; omega
        · rw [List.length_append, L_len]; exact hown3
      | false =>
        rw [okSt_false, decide_eq_true_eq] at hs
        obtain ⟨rfl, hks, _⟩ := hs
        have hF : ∀ w', Calls Tryz.prog 77 #[.string key] w' fun e w'' => e = .returned (.int .i64 (folL (L key))) ∧ w'' = w' := fun w' => (follows_any key w' (by omega)).mono fun e w'' ⟨he, hw⟩ => ⟨he, hw.symm⟩
        have HF2 := Lib.hid hF; clear hF
        by_cases hnm : isName (L key) = true
        · have hnm' := hnm
          unfold isName at hnm'
          simp only [decide_eq_true_eq] at hnm'
          obtain ⟨hn0, hn1⟩ := hnm'
          have e1 : key.toList.isEmpty = false := by
            rw [Bool.eq_false_iff, ne_eq, neE, ← L_len]
            intro h
            exact hn0 (List.length_eq_zero_iff.1 h)
          have e2 : ((folL (L key) : Int) == key.size) = true := by rw [beq_iff_eq, hn1, L_len]
          have hLT : L (⟨#[46]⟩ ++ key) = 46 :: L key := by rw [L_append]; rfl
          have hTs : (⟨#[46]⟩ ++ key : ByteArray).size ≤ 1025 := by rw [ByteArray.size_append]; show 1 + _ ≤ _; omega
          have HQ := HS.out (L (⟨#[46]⟩ ++ key)) (by rw [hLT]; unfold stepT; simp [hnm])
          have HT7 := Lib.hid hTs
          clear HS hLT hnm hn0 hn1
          have HOD : Hid (∀ nq, ((wr.alloc (.cells #[.bool false, .string key, .int .i64 0] 94)).drewN nq).ownsRow w.heap.size 5 1 u3 acc.length (acc.map bv)) := fun nq => HOC.out
          have HBD : Hid (∀ nq, Below w.heap.size w ((wr.alloc (.cells #[.bool false, .string key, .int .i64 0] 94)).drewN nq)) := fun nq => ⟨hbwC.os, hbwC.tape, hbwC.output, hbwC.size, hbwC.block⟩
          have HS7 : Hid (acc.length + (⟨#[46]⟩ ++ key : ByteArray).size < 100000000000000) := by unfold Hid; omega
          clear HOC hbwC hzC hTs
          go_wp2_with fail
          go_quiet (first | (go_at_call 77; exact Calls.quiet_of_same (HF2.out _)))
          have hownD := HOD.out nq
          have hbwD := HBD.out nq
          have hzD := hbwD.size
          go_wp2_with (at_builtin; refine wp_pushS bytesT rfl _ _ rfl hownD (⟨#[46]⟩ ++ key) rfl rfl HS7.out hzD ?_; intro v' w3 hown3 hg3 hb3)
          refine ⟨⟨k + 1, acc ++ L (⟨#[46]⟩ ++ key), by omega, rfl, ?_, ?_, HQ, hbwD.trans hb3⟩, by simp [intOf]; omega⟩
          · rw [List.length_append, L_len]; have := HT7.out; omega
          · rw [List.length_append, L_len]; exact hown3
        · obtain ⟨Q, hQ⟩ : ∃ Q : ByteArray, Q = ⟨(quoteT (L key)).toArray⟩ := ⟨_, rfl⟩
          have hLQ : L Q = quoteT (L key) := by rw [hQ]; rfl
          have hf6 := flat_len6 (L key)
          rw [L_len] at hf6
          have hQs : Q.size ≤ 6146 := by rw [← L_len, hLQ]; unfold quoteT; simp only [List.length_cons, List.length_append, List.length_nil]; omega
          have hLT : L (⟨#[46]⟩ ++ Q) = 46 :: quoteT (L key) := by rw [L_append, hLQ]; rfl
          have hTs : (⟨#[46]⟩ ++ Q : ByteArray).size ≤ 6147 := by rw [ByteArray.size_append]; show 1 + _ ≤ _; omega
          have HQ := HS.out (L (⟨#[46]⟩ ++ Q)) (by rw [hLT]; unfold stepT quoteT; simp [hnm])
          have HC := Lib.hid (fun w' (h : EnvT w') => quote_any key w' (by omega) h)
          rw [← hQ] at HC
          have HT7 := Lib.hid hTs
          have HOD : Hid (∀ nq, ((wr.alloc (.cells #[.bool false, .string key, .int .i64 0] 94)).drewN nq).ownsRow w.heap.size 5 1 u3 acc.length (acc.map bv)) := fun nq => HOC.out
          have HBD : Hid (∀ nq, Below w.heap.size w ((wr.alloc (.cells #[.bool false, .string key, .int .i64 0] 94)).drewN nq)) := fun nq => ⟨hbwC.os, hbwC.tape, hbwC.output, hbwC.size, hbwC.block⟩
          have HS7 : Hid (acc.length + (⟨#[46]⟩ ++ Q : ByteArray).size < 100000000000000) := by unfold Hid; omega
          have key2 : (key.toList.isEmpty = true) ∨ (key.toList.isEmpty = false ∧ ((folL (L key) : Int) == key.size) = false) := by
            cases h1 : key.toList.isEmpty with
            | true => exact .inl rfl
            | false =>
              right
              refine ⟨rfl, ?_⟩
              rw [beq_eq_false_iff_ne]
              intro h2
              apply hnm
              unfold isName
              simp only [decide_eq_true_eq]
              refine ⟨fun h3 => ?_, by rw [L_len]; omega⟩
              have h4 : key.size = 0 := by rw [← L_len, h3]; rfl
              rw [neE.2 h4] at h1
              cases h1
          clear HS hQ hLQ hLT hTs hnm HOC hbwC hzC hf6
          rcases key2 with e1 | ⟨e1, e2⟩
          all_goals
            go_wp2_with fail
            go_quiet (first | (go_at_call 77; exact Calls.quiet_of_same (HF2.out _)))
            have hownD := HOD.out nq
            have hbwD := HBD.out nq
            have hzD := hbwD.size
            have HED := Lib.hid (HE.out.below hbwD)
            go_wp2_with fail
            refine (HC.out _ HED.out).mono ?_
            rintro e w2 ⟨rfl, hb2⟩
            have hown2 := own_below hownD hb2
            have hbw2 := hbwD.trans (hb2.mono hzD)
            have hz2 := hbw2.size
            clear hownD hbwD hzD hb2
            go_wp2_with (at_builtin; refine wp_pushS bytesT rfl _ _ rfl hown2 (⟨#[46]⟩ ++ Q) rfl rfl HS7.out hz2 ?_; intro v' w3 hown3 hg3 hb3)
            refine ⟨⟨k + 1, acc ++ L (⟨#[46]⟩ ++ Q), by omega, rfl, ?_, ?_, HQ, hbw2.trans hb3⟩, by simp [intOf]; omega⟩
            · rw [List.length_append, L_len]; have := HT7.out; omega
            · rw [List.length_append, L_len]; exact hown3
  case true =>
    rw [hb] at c0 HP
    clear hb
    have HPR : Hid (preT l = [46]) := HP.out
    clear HP
    go_enter Tryz.func35, Tryz.ntmps35
    have hownN : w.ownsRow w.heap.size 5 1 (.slice none 0 0) 0 (([] : List UInt8).map bv) := World.ownsRow_nil _ _ _ _
    go_wp2_with (at_builtin; refine wp_pushM bytesT rfl _ _ rfl hownN [46] [.int .u8 46] rfl 1 rfl rfl _ rfl rfl (by omega) (Nat.le_refl _) ?_; intro v1 w1 hown1 hg1 hb1)
    have hst : ∃ acc : List UInt8, acc.length ≤ 1 ∧ acc = [46] ∧ w1.ownsRow w.heap.size 5 1 v1 acc.length (acc.map bv) := ⟨[46], by decide, rfl, hown1⟩
    have HST := Lib.hid hst; clear hst
    have HB1 := Lib.hid hb1
    go_loopw [3, 5, 18] (fun o _ n wr => ∃ (k : Nat) (acc : List UInt8), k ≤ l.length ∧ n = .int .i64 k ∧ acc.length ≤ 7000 * k + 1 ∧ wr.ownsRow w.heap.size 5 1 o acc.length (acc.map bv) ∧ Hid (acc = preT l ++ (l.take k).flatMap stepT) ∧ Below w.heap.size w wr) (fun _ _ n _ => l.length - (intOf n).toNat)
    case atStart =>
      obtain ⟨acc, ha, hacc, hown⟩ := HST.out
      exact ⟨0, acc, Nat.zero_le _, rfl, by omega, hown, by unfold Hid; rw [hacc, HPR.out]; rfl, HB1.out⟩
    case round =>
      clear HST HB1 hb1 c0 hown1
      obtain ⟨k, acc, hk, rfl, hal, hown, HA2, hbw⟩ := hrel
      have hz := hbw.size
      by_cases hlt : k < l.length
      case neg =>
        obtain rfl : k = l.length := by omega
        have HX : Hid (textL l = acc) := by
          unfold Hid
          rw [HT.out, HA2.out, List.take_of_length_le (Nat.le_refl _)]
        clear HA2 HT HPR
        have hcv := conv_own bytesT hown
        go_wp2_with fail
        go_ret
        exact ⟨by rw [HX.out]; rfl, hbw⟩
      have hstep : ∀ cs, cs = stepT l[k] → Hid (acc ++ cs = preT l ++ (l.take (k + 1)).flatMap stepT) := by
        intro cs hcs
        unfold Hid
        rw [HA2.out, hcs, text_snoc l k hlt, List.append_assoc]
      have HS := Lib.hid hstep; clear hstep HA2
      obtain ⟨d0, d1, d2⟩ := HA.out k hlt
      have hs := okSt_at HOK.out k hlt
      rw [← hbw.cell (p := ⟨g, o + k * 3, none⟩) hg] at d0
      rw [← hbw.cell (p := ⟨g, o + k * 3 + 1, none⟩) hg] at d1
      rw [← hbw.cell (p := ⟨g, o + k * 3 + 2, none⟩) hg] at d2
      generalize l[k] = s at *
      obtain ⟨b, key, ix⟩ := s
      simp only [] at d0 d1 d2
      have hownC := hown.alloc (.cells #[.bool b, .string key, .int .i64 ix] 94)
      have hbwC : Below w.heap.size w (wr.alloc (.cells #[.bool b, .string key, .int .i64 ix] 94)) := hbw.alloc hz _
      have hzC := hbwC.size
      have HEC := Lib.hid (HE.out.below hbwC)
      have hg1 : g < wr.heap.size := by omega
      have HOC := Lib.hid hownC
      clear hown hownC
      cases b with
      | true =>
        rw [okSt_true, decide_eq_true_eq] at hs
        obtain ⟨_, hi0, hi1⟩ := hs
        have hle := itoa_len ix hi0 hi1
        have hi1' : Hid (ix ≤ 65536) := hi1
        clear hi1
        obtain ⟨H, hH⟩ : ∃ H : ByteArray, H = ⟨(Lib.itoa ix).toArray⟩ := ⟨_, rfl⟩
        have hLH : L H = Lib.itoa ix := by rw [hH]; rfl
        have hHs : H.size ≤ 5 := by rw [← L_len, hLH]; exact hle
        have hLT : L (⟨#[91]⟩ ++ H ++ ⟨#[93]⟩) = 91 :: (Lib.itoa ix ++ [93]) := by rw [L_append, L_append, hLH]; rfl
        have hTs : (⟨#[91]⟩ ++ H ++ ⟨#[93]⟩ : ByteArray).size ≤ 7 := by rw [← L_len, hLT]; simp only [List.length_cons, List.length_append, List.length_nil]; omega
        have HQ := HS.out (L (⟨#[91]⟩ ++ H ++ ⟨#[93]⟩)) (by rw [hLT]; rfl)
        have HC := Lib.hid (fun w' (h : EnvT w') => Itoa_any ix hi0 hi1'.out w' h)
        rw [← hH] at HC
        have HT7 := Lib.hid hTs
        have HLT7 : Hid ((L (⟨#[91]⟩ ++ H ++ ⟨#[93]⟩)).length ≤ 7) := by unfold Hid; rw [L_len]; exact hTs
        clear HS hH hLH hLT hTs hle
        go_wp2_with fail
        refine (HC.out _ HEC.out).mono ?_
        rintro e w2 ⟨rfl, hb2⟩
        have hown2 := own_below HOC.out hb2
        have hbw2 := hbwC.trans (hb2.mono hzC)
        have hz2 := hbw2.size
        have HS7 : Hid (acc.length + (⟨#[91]⟩ ++ H ++ ⟨#[93]⟩ : ByteArray).size < 100000000000000) := by have := HT7.out; unfold Hid; omega
        clear HOC HC hbwC hzC hb2
        go_wp2_with (at_builtin; refine wp_pushS bytesT rfl _ _ rfl hown2 (⟨#[91]⟩ ++ H ++ ⟨#[93]⟩) rfl rfl HS7.out hz2 ?_; intro v' w3 hown3 hg3 hb3)
        refine ⟨⟨k + 1, acc ++ L (⟨#[91]⟩ ++ H ++ ⟨#[93]⟩), by omega, rfl, ?_, ?_, HQ, hbw2.trans hb3⟩, by simp [intOf]; omega⟩
        · rw [List.length_append]; have := HLT7.out; omega
        · rw [List.length_append, L_len]; exact hown3
      | false =>
        rw [okSt_false, decide_eq_true_eq] at hs
        obtain ⟨rfl, hks, _⟩ := hs
        have hF : ∀ w', Calls Tryz.prog 77 #[.string key] w' fun e w'' => e = .returned (.int .i64 (folL (L key))) ∧ w'' = w' := fun w' => (follows_any key w' (by omega)).mono fun e w'' ⟨he, hw⟩ => ⟨he, hw.symm⟩
        have HF2 := Lib.hid hF; clear hF
        by_cases hnm : isName (L key) = true
        · have hnm' := hnm
          unfold isName at hnm'
          simp only [decide_eq_true_eq] at hnm'
          obtain ⟨hn0, hn1⟩ := hnm'
          have e1 : key.toList.isEmpty = false := by
            rw [Bool.eq_false_iff, ne_eq, neE, ← L_len]
            intro h
            exact hn0 (List.length_eq_zero_iff.1 h)
          have e2 : ((folL (L key) : Int) == key.size) = true := by rw [beq_iff_eq, hn1, L_len]
          have hLT : L (⟨#[46]⟩ ++ key) = 46 :: L key := by rw [L_append]; rfl
          have hTs : (⟨#[46]⟩ ++ key : ByteArray).size ≤ 1025 := by rw [ByteArray.size_append]; show 1 + _ ≤ _; omega
          have HQ := HS.out (L (⟨#[46]⟩ ++ key)) (by rw [hLT]; unfold stepT; simp [hnm])
          have HT7 := Lib.hid hTs
          clear HS hLT hnm hn0 hn1
          have HOD : Hid (∀ nq, ((wr.alloc (.cells #[.bool false, .string key, .int .i64 0] 94)).drewN nq).ownsRow w.heap.size 5 1 u3 acc.length (acc.map bv)) := fun nq => HOC.out
          have HBD : Hid (∀ nq, Below w.heap.size w ((wr.alloc (.cells #[.bool false, .string key, .int .i64 0] 94)).drewN nq)) := fun nq => ⟨hbwC.os, hbwC.tape, hbwC.output, hbwC.size, hbwC.block⟩
          have HS7 : Hid (acc.length + (⟨#[46]⟩ ++ key : ByteArray).size < 100000000000000) := by unfold Hid; omega
          clear HOC hbwC hzC hTs
          go_wp2_with fail
          go_quiet (first | (go_at_call 77; exact Calls.quiet_of_same (HF2.out _)))
          have hownD := HOD.out nq
          have hbwD := HBD.out nq
          have hzD := hbwD.size
          go_wp2_with (at_builtin; refine wp_pushS bytesT rfl _ _ rfl hownD (⟨#[46]⟩ ++ key) rfl rfl HS7.out hzD ?_; intro v' w3 hown3 hg3 hb3)
          refine ⟨⟨k + 1, acc ++ L (⟨#[46]⟩ ++ key), by omega, rfl, ?_, ?_, HQ, hbwD.trans hb3⟩, by simp [intOf]; omega⟩
          · rw [List.length_append, L_len]; have := HT7.out; omega
          · rw [List.length_append, L_len]; exact hown3
        · obtain ⟨Q, hQ⟩ : ∃ Q : ByteArray, Q = ⟨(quoteT (L key)).toArray⟩ := ⟨_, rfl⟩
          have hLQ : L Q = quoteT (L key) := by rw [hQ]; rfl
          have hf6 := flat_len6 (L key)
          rw [L_len] at hf6
          have hQs : Q.size ≤ 6146 := by rw [← L_len, hLQ]; unfold quoteT; simp only [List.length_cons, List.length_append, List.length_nil]; omega
          have hLT : L (⟨#[46]⟩ ++ Q) = 46 :: quoteT (L key) := by rw [L_append, hLQ]; rfl
          have hTs : (⟨#[46]⟩ ++ Q : ByteArray).size ≤ 6147 := by rw [ByteArray.size_append]; show 1 + _ ≤ _; omega
          have HQ := HS.out (L (⟨#[46]⟩ ++ Q)) (by rw [hLT]; unfold stepT quoteT; simp [hnm])
          have HC := Lib.hid (fun w' (h : EnvT w') => quote_any key w' (by omega) h)
          rw [← hQ] at HC
          have HT7 := Lib.hid hTs
          have HOD : Hid (∀ nq, ((wr.alloc (.cells #[.bool false, .string key, .int .i64 0] 94)).drewN nq).ownsRow w.heap.size 5 1 u3 acc.length (acc.map bv)) := fun nq => HOC.out
          have HBD : Hid (∀ nq, Below w.heap.size w ((wr.alloc (.cells #[.bool false, .string key, .int .i64 0] 94)).drewN nq)) := fun nq => ⟨hbwC.os, hbwC.tape, hbwC.output, hbwC.size, hbwC.block⟩
          have HS7 : Hid (acc.length + (⟨#[46]⟩ ++ Q : ByteArray).size < 100000000000000) := by unfold Hid; omega
          have key2 : (key.toList.isEmpty = true) ∨ (key.toList.isEmpty = false ∧ ((folL (L key) : Int) == key.size) = false) := by
            cases h1 : key.toList.isEmpty with
            | true => exact .inl rfl
            | false =>
              right
              refine ⟨rfl, ?_⟩
              rw [beq_eq_false_iff_ne]
              intro h2
              apply hnm
              unfold isName
              simp only [decide_eq_true_eq]
              refine ⟨fun h3 => ?_, by rw [L_len]; omega⟩
              have h4 : key.size = 0 := by rw [← L_len, h3]; rfl
              rw [neE.2 h4] at h1
              cases h1
          clear HS hQ hLQ hLT hTs hnm HOC hbwC hzC hf6
          rcases key2 with e1 | ⟨e1, e2⟩
          all_goals
            go_wp2_with fail
            go_quiet (first | (go_at_call 77; exact Calls.quiet_of_same (HF2.out _)))
            have hownD := HOD.out nq
            have hbwD := HBD.out nq
            have hzD := hbwD.size
            have HED := Lib.hid (HE.out.below hbwD)
            go_wp2_with fail
            refine (HC.out _ HED.out).mono ?_
            rintro e w2 ⟨rfl, hb2⟩
            have hown2 := own_below hownD hb2
            have hbw2 := hbwD.trans (hb2.mono hzD)
            have hz2 := hbw2.size
            clear hownD hbwD hzD hb2
            go_wp2_with (at_builtin; refine wp_pushS bytesT rfl _ _ rfl hown2 (⟨#[46]⟩ ++ Q) rfl rfl HS7.out hz2 ?_; intro v' w3 hown3 hg3 hb3)
            refine ⟨⟨k + 1, acc ++ L (⟨#[46]⟩ ++ Q), by omega, rfl, ?_, ?_, HQ, hbw2.trans hb3⟩, by simp [intOf]; omega⟩
            · rw [List.length_append, L_len]; have := HT7.out; omega
            · rw [List.length_append, L_len]; exact hown3
end Go.Proofs.YthdninnjjmhpfaaGreatDoor

namespace Go.Proofs.YthdninnjjmhpfaaGreatDoor
open Go.RowKit
set_option maxHeartbeats 8000000
set_option maxRecDepth 100000

/-! What a change that is valid says. -/
theorem one_ok {x : Ch} (h : oneC x = 0) : validP x.p = true ∧ 0 ≤ x.pos ∧ x.pos ≤ 65536 ∧ (x.op = 1 ∨ x.op = 2 ∨ x.op = 3 ∨ x.op = 4) := by
  unfold oneC at h
  by_cases h1 : arg1 x = false
  · rw [if_pos h1] at h; exact absurd h (by decide)
  by_cases h2 : arg2 x = false
  · rw [if_neg h1, if_pos h2] at h; exact absurd h (by decide)
  rw [Bool.not_eq_false] at h1 h2
  unfold arg1 at h1
  unfold arg2 at h2
  simp only [Bool.not_eq_true', Bool.or_eq_false_iff, Bool.and_eq_false_iff, Bool.not_eq_false', decide_eq_false_iff_not] at h1 h2
  obtain ⟨ho, hp, _⟩ := h1
  refine ⟨hp, by omega, by omega, ?_⟩
  unfold oldB newB at ho
  rw [decide_eq_true_iff, decide_eq_true_iff] at ho
  omega
theorem first_all {xs : List Ch} (h : (firstL xs).2 = 0) : ∀ i (hi : i < xs.length), oneC xs[i] = 0 := by
  unfold firstL at h
  split at h
  · cases h
  · have key : ∀ (l : List Ch) (k : Nat), (firstC l k).2 = 0 → ∀ x ∈ l, oneC x = 0 := by
      intro l
      induction l with
      | nil => intro _ _ x hx; cases hx
      | cons y t ih =>
        intro k hk x hx
        rw [firstC] at hk
        split at hk
        · exact absurd hk (by assumption)
        · rename_i hy
          rcases List.mem_cons.1 hx with rfl | hx
          · simpa using hy
          · exact ih _ hk x hx
    exact fun i hi => key xs 0 h _ (List.getElem_mem hi)
theorem nod_wr (x : Ch) : nodF (wr5 x) ≤ nodV x.o + nodV x.n + 3 := by
  have a : ∀ l m : List (ByteArray × V), nodF (l ++ m) = nodF l + nodF m := by
    intro l m
    induction l with
    | nil => rw [List.nil_append, nodF]; omega
    | cons y t ih => rw [List.cons_append, nodF, nodF, ih]; omega
  have b : nodF ([] : List (ByteArray × V)) = 0 := by rw [nodF]
  have c : ∀ k v, nodF [(k, v)] = nodV v := fun k v => by rw [nodF, nodF]; simp
  have d : ∀ s, nodV (vT s) = 1 := fun s => by rw [vT, nodV_mk, nodL, nodF]
  have d2 : ∀ s, nodV (vI s) = 1 := fun s => by rw [vI, nodV_mk, nodL, nodF]
  have e : nodF (wr2 x) = 2 := by
    unfold wr2
    rw [nodF, c, d, d]
  unfold wr5 wr4 wr3
  simp only [a, e]
  have f1 : nodF (if keyB x = true then [(kAt, vI x.pos)] else []) ≤ 1 := by split <;> simp [b, c, d2]
  have f2 : nodF (if oldB x.op = true then [(kOld, x.o)] else []) ≤ nodV x.o := by split <;> simp [b, c]
  have f3 : nodF (if newB x.op = true then [(kNew, x.n)] else []) ≤ nodV x.n := by split <;> simp [b, c]
  omega
theorem nod_wrL (xs : List Ch) (h : fewB xs = true) : nodV (wrL xs) ≤ 1000000 := by
  obtain ⟨hn, hf⟩ := fewB_is h
  have key : ∀ l : List Ch, (∀ x ∈ l, nodV x.o ≤ 150 ∧ nodV x.n ≤ 150) → nodL (l.map wrV) ≤ 304 * l.length := by
    intro l
    induction l with
    | nil => intro _; rw [List.map_nil, nodL]; exact Nat.zero_le _
    | cons y t ih =>
      intro hl
      have h1 := ih (fun x hx => hl x (List.mem_cons_of_mem _ hx))
      have h2 := hl y List.mem_cons_self
      have h3 := nod_wr y
      rw [List.map_cons, nodL, List.length_cons]
      have h4 : nodV (wrV y) = 1 + nodF (wr5 y) := by rw [wrV, nodV_mk, nodL]
      omega
  have h1 := key xs (fun x hx => by
    obtain ⟨i, hi, rfl⟩ := List.getElem_of_mem hx
    obtain ⟨a, _, b, _⟩ := fewOne_is (hf i hi)
    exact ⟨a, b⟩)
  rw [wrL, nodV_mk, nodF]
  omega
theorem wr5_len (x : Ch) : (wr5 x).length ≤ 5 ∧ (wr4 x).length ≤ 4 ∧ (wr3 x).length ≤ 3 := by
  have f1 : (if keyB x = true then [(kAt, vI x.pos)] else []).length ≤ 1 := by split <;> simp
  have f2 : (if oldB x.op = true then [(kOld, x.o)] else []).length ≤ 1 := by split <;> simp
  have f3 : (if newB x.op = true then [(kNew, x.n)] else []).length ≤ 1 := by split <;> simp
  have e : (wr2 x).length = 2 := rfl
  unfold wr5 wr4 wr3
  simp only [List.length_append, e]
  omega
/-! The map under way. -/
def St3 (wm w : World) (g B : Nat) (fl : List (ByteArray × V)) : Prop := ∃ F, MapAt w g B F fl ∧ Below g wm w
theorem St3.below {wm w w' : World} {g B : Nat} {fl : List (ByteArray × V)} (h : St3 wm w g B fl) (hb : Below w.heap.size w w') : St3 wm w' g B fl := by
  obtain ⟨F, h1, h2⟩ := h
  exact ⟨F, h1.below hb, h2.trans (hb.mono (Nat.le_of_lt h1.lt))⟩
theorem St3.lt {wm w : World} {g B : Nat} {fl : List (ByteArray × V)} (h : St3 wm w g B fl) : g < w.heap.size := by
  obtain ⟨F, h1, h2⟩ := h
  exact h1.lt
theorem St3.b {wm w : World} {g B : Nat} {fl : List (ByteArray × V)} (h : St3 wm w g B fl) : Below g wm w := by
  obtain ⟨F, h1, h2⟩ := h
  exact h2
theorem add_leaf (key : ByteArray) (h : Hd) (wm w : World) (g B : Nat) (fl : List (ByteArray × V)) (hs : St3 wm w g B fl) (hB : B ≤ g) (hk : key.size ≤ 1000000000) (hl : fl.length < 1000) (ok : HdOk h) (hb : h.bytes = []) :
    Calls Tryz.prog 32 #[.string key, aggV ⟨h, .slice none 0 0, .slice none 0 0, .slice none 0 0⟩, .pointer (some ⟨g, 0, none⟩)] w fun e w' => e = .returned (.tuple #[]) ∧ St3 wm w' g B (fl ++ [(key, .mk h [] [])]) := by
  obtain ⟨F, h1, h2⟩ := hs
  refine (add_any key _ _ w g B F fl h1 hB hk hl (leaf_rd h ok hb w _)).mono fun e w' hp => ?_
  obtain ⟨F', he, h3, h4⟩ := hp
  exact ⟨he, F', h3, h2.trans h4⟩
theorem add_copy (key : ByteArray) (c : VC) (x : V) (wm w w1 : World) (g B : Nat) (fl : List (ByteArray × V)) (hs : St3 wm w g B fl) (hb1 : Below w.heap.size w w1) (hx : RdI w1 (fun b => w.heap.size ≤ b) c x) (hB : B ≤ g) (hk : key.size ≤ 1000000000) (hl : fl.length < 1000) :
    Calls Tryz.prog 32 #[.string key, aggV c, .pointer (some ⟨g, 0, none⟩)] w1 fun e w' => e = .returned (.tuple #[]) ∧ St3 wm w' g B (fl ++ [(key, x)]) := by
  obtain ⟨F, h1, h2⟩ := hs
  have hlt := h1.lt
  have hblk := h1.2.blk
  refine (add_any key c x w1 g B F fl (h1.below hb1) hB hk hl (hx.mono fun b hb => ⟨.inr (by omega), fun h => by have := hblk b h.symm; omega⟩)).mono fun e w' hp => ?_
  obtain ⟨F', he, h3, h4⟩ := hp
  exact ⟨he, F', h3, (h2.trans (hb1.mono (Nat.le_of_lt hlt))).trans h4⟩
/-! The list under way. -/
def ListAt (w : World) (g B : Nat) (F : Value) (l : List V) : Prop :=
  w.heap[g]? = some (.cells (VC.cells ⟨hdK 6, .slice none 0 0, F, .slice none 0 0⟩).toArray 30 (0, 0)) ∧ OwnN 30 13 VC.cells RdI (TB B g) w (g + 1) F l
theorem ListAt.lt {w : World} {g B : Nat} {F : Value} {l : List V} (h : ListAt w g B F l) : g < w.heap.size := by
  rcases Nat.lt_or_ge g w.heap.size with h' | h'
  · exact h'
  · have := h.1
    rw [Array.getElem?_eq_none h'] at this
    cases this
theorem ListAt.below {w w' : World} {g B : Nat} {F : Value} {l : List V} (h : ListAt w g B F l) (hb : Below w.heap.size w w') : ListAt w' g B F l :=
  ⟨(hb.block g h.lt).trans h.1, h.2.below stbV hb⟩
theorem ListAt.rdS {w : World} {g B : Nat} {F : Value} {l : List V} (h : ListAt w g B F l) (hl : l.length ≤ 140737488351232) {S : Nat → Prop} (hT : ∀ b, TB B g b → S b) : RdI w S ⟨hdK 6, .slice none 0 0, F, .slice none 0 0⟩ (.mk (hdK 6) l []) := by
  have nb : ∀ S : Nat → Prop, BlkIn S (.slice none 0 0) := fun S g o p n cap hv _ => by cases hv
  obtain ⟨lc, h1, h2, h3⟩ := h.2.sl stbV cells_len ⟨hdK 0, .slice none 0 0, .slice none 0 0, .slice none 0 0⟩ hl (S := S) hT (fun b hb _ => hT b (.inr hb))
  exact RdI.of_rows (okK 6 ⟨by decide, by decide⟩) Sl.nil (nb _) ⟨lc, h1, h2, h3⟩ ⟨fun _ => (⟨#[]⟩, ⟨hdK 0, .slice none 0 0, .slice none 0 0, .slice none 0 0⟩), Sl.nil, fun i hi => absurd hi (Nat.not_lt_zero _), nb _⟩
theorem ListAt.rd {w : World} {g B : Nat} {F : Value} {l : List V} (h : ListAt w g B F l) (hl : l.length ≤ 140737488351232) : RdV w ⟨hdK 6, .slice none 0 0, F, .slice none 0 0⟩ (.mk (hdK 6) l []) := h.rdS hl (fun _ _ => trivial)
/-- What Write hands back. -/
def WrPost (w : World) (xs : List Ch) (e : Ending) (w' : World) : Prop := ∃ c, e = .returned (.tuple #[aggV c, .int .i64 ((wrR xs).2 : Nat)]) ∧ RdV w' c (wrR xs).1 ∧ Below w.heap.size w w'
end Go.Proofs.YthdninnjjmhpfaaGreatDoor

namespace Go.Proofs.YthdninnjjmhpfaaGreatDoor
open Go.RowKit
set_option maxHeartbeats 4000000
set_option maxRecDepth 100000

theorem results_two {P : Program} {fn : Func} {p q : Tmp} {ty : TypeId} (h : fn.results = #[.cell p ty, .tmp q]) (tmps : Array Value) (w : World) (g : Nat) (t : TypeId) (cs : Array Value) (fr : Nat × Nat) (d : TypeDesc) (v : Value)
    (hp : tmps.getD p undef = .pointer (some ⟨g, 0, none⟩)) (hq : tmps.getD q undef = v) (hg : w.heap[g]? = some (.cells cs t fr))
    (hu : P.underlying ty = some d) (hd : (match d with | .struct _ | .array _ _ => true | _ => false) = true) (hi : (P.info? ty).map (·.size) = some cs.size) :
    (results fn tmps).run P w = .ok (.tuple #[.agg cs, v]) w := by
  have hp' : tmps[p]?.getD undef = .pointer (some ⟨g, 0, none⟩) := by simpa using hp
  have hq' : tmps[q]?.getD undef = v := by simpa using hq
  simp [results, h, hp', hq', asAddr, run_loadVar_row w g t ty cs fr d hg hu hd hi]
/-- The operator that a text names, looked for among the first k. -/
def opS (t : ByteArray) : Nat → Int
  | 0 => 0
  | k + 1 => if t = nameS ((k : Int) + 1) then (k : Int) + 1 else opS t k
theorem opS_bd (t : ByteArray) : ∀ k, 0 ≤ opS t k ∧ opS t k ≤ k
  | 0 => by unfold opS; omega
  | k + 1 => by
    have := opS_bd t k
    unfold opS
    split <;> omega
/-- The operator of the map's fields. -/
def opF (f : List (ByteArray × V)) : Int := match fieldF kOp f with
  | some v => if (hdV v).kind = 4 then opS (hdV v).text 4 else 0
  | none => 0
def pathF (f : List (ByteArray × V)) : Option ByteArray := match fieldF kPath f with
  | some v => if (hdV v).kind = 4 then some (hdV v).text else none
  | none => none
/-- The number that a value is. -/
def numV (v : V) : Int := numI (hdV v).kind (numD (hdV v).neg (L (hdV v).ds) (hdV v).exp)
def b1 (b : Bool) : Nat := if b then 1 else 0
/-- Do the further fields fit? -/
def fitF (f : List (ByteArray × V)) (op : Int) (p : List St) : Bool :=
  decide ((fieldF kAt f).isSome = (movB op && lastK p)) && (decide ((fieldF kOld f).isSome = oldB op) && (decide ((fieldF kNew f).isSome = newB op) &&
    (decide (f.length = 2 + b1 (fieldF kAt f).isSome + b1 (fieldF kOld f).isSome + b1 (fieldF kNew f).isSome) && !((movB op && lastK p) && decide (numV ((fieldF kAt f).getD v0) < 0)))))
/-- The change that a value is, and the error. -/
def changeOf (f : List (ByteArray × V)) (op : Int) (p : List St) : Ch := ⟨op, p, if (movB op && lastK p) = true then numV ((fieldF kAt f).getD v0) else 0, (fieldF kOld f).getD v0, (fieldF kNew f).getD v0⟩
def ch0 : Ch := ⟨0, [], 0, v0, v0⟩
def readC (v : V) : Ch × Nat :=
  if (hdV v).kind ≠ 7 then (ch0, 6)
  else if opF (flV v) = 0 then (ch0, 3)
  else match pathF (flV v) with
    | none => (ch0, 3)
    | some t => if (parseL (L t)).2 ≠ 0 then (ch0, (parseL (L t)).2)
      else if fitF (flV v) (opF (flV v)) (parseL (L t)).1 = false then (ch0, 3)
      else if movB (opF (flV v)) = true ∧ (parseL (L t)).1 = [] then (ch0, 1)
      else (changeOf (flV v) (opF (flV v)) (parseL (L t)).1, 0)
/-! The five names are not alike. -/
theorem five (f : List (ByteArray × V)) : b1 (fieldF kOp f).isSome + b1 (fieldF kPath f).isSome + b1 (fieldF kAt f).isSome + b1 (fieldF kOld f).isSome + b1 (fieldF kNew f).isSome ≤ f.length := by
  induction f with
  | nil => simp [fieldF, b1]
  | cons y t ih =>
    obtain ⟨k, x⟩ := y
    rw [List.length_cons]
    simp only [fieldF]
    have n12 : kOp ≠ kPath := by decide
    have n13 : kOp ≠ kAt := by decide
    have n14 : kOp ≠ kOld := by decide
    have n15 : kOp ≠ kNew := by decide
    have n23 : kPath ≠ kAt := by decide
    have n24 : kPath ≠ kOld := by decide
    have n25 : kPath ≠ kNew := by decide
    have n34 : kAt ≠ kOld := by decide
    have n35 : kAt ≠ kNew := by decide
    have n45 : kOld ≠ kNew := by decide
    have hb : ∀ b, b1 b ≤ 1 := fun b => by cases b <;> decide
    have u1 := hb (fieldF kOp t).isSome
    have u2 := hb (fieldF kPath t).isSome
    have u3 := hb (fieldF kAt t).isSome
    have u4 := hb (fieldF kOld t).isSome
    have u5 := hb (fieldF kNew t).isSome
    have hs : b1 (some x : Option V).isSome = 1 := rfl
    by_cases h1 : k = kOp
    · subst h1
      rw [if_pos rfl, if_neg n12, if_neg n13, if_neg n14, if_neg n15, hs]; omega
    by_cases h2 : k = kPath
    · subst h2
      rw [if_pos rfl, if_neg n12.symm, if_neg n23, if_neg n24, if_neg n25, hs]; omega
    by_cases h3 : k = kAt
    · subst h3
      rw [if_pos rfl, if_neg n13.symm, if_neg n23.symm, if_neg n34, if_neg n35, hs]; omega
    by_cases h4 : k = kOld
    · subst h4
      rw [if_pos rfl, if_neg n14.symm, if_neg n24.symm, if_neg n34.symm, if_neg n45, hs]; omega
    by_cases h5 : k = kNew
    · subst h5
      rw [if_pos rfl, if_neg n15.symm, if_neg n25.symm, if_neg n35.symm, if_neg n45.symm, hs]; omega
    rw [if_neg h1, if_neg h2, if_neg h3, if_neg h4, if_neg h5]
    omega
/-- Are all the fields of a written change there? -/
def hasAll (f : List (ByteArray × V)) (w : List (ByteArray × V)) : Bool := w.all fun y => (fieldF y.1 f).isSome
theorem wr5_has (f : List (ByteArray × V)) (x : Ch) : hasAll f (wr5 x) = ((fieldF kOp f).isSome && ((fieldF kPath f).isSome && ((!keyB x || (fieldF kAt f).isSome) && ((!oldB x.op || (fieldF kOld f).isSome) && (!newB x.op || (fieldF kNew f).isSome))))) := by
  unfold hasAll wr5 wr4 wr3 wr2
  cases keyB x <;> cases oldB x.op <;> cases newB x.op <;> simp [Bool.and_assoc]
theorem wr5_num (x : Ch) : (wr5 x).length = 2 + b1 (keyB x) + b1 (oldB x.op) + b1 (newB x.op) := by
  unfold wr5 wr4 wr3 wr2
  cases keyB x <;> cases oldB x.op <;> cases newB x.op <;> rfl
/-- The reference's test is the program's. -/
theorem fit_same (f : List (ByteArray × V)) (op : Int) (p : List St) (x : Ch) (hop : x.op = op) (hp : x.p = p) (h1 : (fieldF kOp f).isSome = true) (h2 : (fieldF kPath f).isSome = true) (hat : (fieldF kAt f).isSome = true → 0 ≤ numV ((fieldF kAt f).getD v0)) :
    fitF f op p = (decide ((wr5 x).length = f.length) && hasAll f (wr5 x)) := by
  subst hop hp
  have h5 := five f
  rw [wr5_num, wr5_has, h1, h2]
  rw [h1, h2] at h5
  unfold fitF keyB
  have hb : b1 true = 1 := rfl
  have hb0 : b1 false = 0 := rfl
  rw [hb] at h5
  cases ha : (fieldF kAt f).isSome <;> cases ho : (fieldF kOld f).isSome <;> cases hn : (fieldF kNew f).isSome <;> cases (movB x.op && lastK x.p) <;> cases oldB x.op <;> cases newB x.op <;>
    simp only [ha, ho, hn, hb, hb0] at h5 hat ⊢ <;> simp <;> (try omega) <;> (try (have h9 := hat trivial; rw [decide_eq_false (by omega : ¬ numV ((fieldF kAt f).getD v0) < 0)]; simp [eq_comm]))
/-! patch.read$1. -/
/-- What take hands back: the field, and whether it is there as it should; one less is left. -/
def TkPost (w : World) (gl : Nat) (n : Int) (counts : Bool) (o : Option V) (e : Ending) (w' : World) : Prop :=
  ∃ c, e = .returned (.tuple #[aggV c, .bool (o.isSome == counts)]) ∧ RdI w' (fun b => w.heap.size ≤ b) c (o.getD v0) ∧ w.grownBy w' (some gl) ∧ w'.heap[gl]? = some (.cells #[.int .i64 (n - b1 o.isSome)] 3 (0, 0))
theorem grown_below {w w' w2 : World} {r : Option Nat} (h : w.grownBy w' r) (hb : Below w'.heap.size w' w2) : w.grownBy w2 r :=
  ⟨hb.os.trans h.os, hb.tape.trans h.tape, hb.output.trans h.output, Nat.le_trans h.size hb.size, fun b h1 h2 => (hb.block b (Nat.lt_of_lt_of_le h1 h.size)).trans (h.block b h1 h2)⟩
theorem take_any (key : ByteArray) (counts : Bool) (v : V) (c : VC) (w : World) (g1 gl : Nat) (n : Int) (h0 : -100 ≤ n) (h9 : n ≤ 1000000000) (hn : nodV v ≤ 1000000) (hd : depV v ≤ 65536) (hx : w.heap[g1]? = some (.cells (VC.cells c).toArray 30 (0, 0))) (hl : w.heap[gl]? = some (.cells #[.int .i64 n] 3 (0, 0))) (hk : c.h.kind = 7) (hv : RdV w c v) :
    Calls Tryz.prog 70 #[.string key, .bool counts, .pointer (some ⟨g1, 0, none⟩), .pointer (some ⟨gl, 0, none⟩)] w (TkPost w gl n counts (fieldF key (flV v))) := by
  have hgl : gl < w.heap.size := (Array.getElem?_eq_some_iff.1 hl).1
  have hg1 : g1 < w.heap.size := (Array.getElem?_eq_some_iff.1 hx).1
  have HF := Lib.hid (fun w' (hb : Below w.heap.size w w') => VField_any key v c w' hn hd (hv.stays hb) hk)
  have HX := Lib.hid hx
  have HL := Lib.hid hl
  clear hx hl hv
  generalize fieldF key (flV v) = o at *
  go_enter Tryz.func70, Tryz.ntmps70
  go_upto_region 1 with fail
  generalize hW : World.alloc w _ = w1
  obtain ⟨ha1, -, hz1, hb1⟩ := alloc_of hW
  have HR1 := Lib.hid ha1
  have HB1 := Lib.hid hb1
  have HZ1 := Lib.hid hz1
  have HC1 : Hid (∀ j, j < 13 → w1.cell? ⟨g1, 0 + j, none⟩ = (VC.cells c)[j]?) := rowV ((hb1.block _ hg1).trans HX.out)
  clear hW ha1 hz1 hb1
  go_wp2_with (refine wpl_load rfl rfl stVk rfl (cells_len _) HC1.out ?_)
  refine (HF.out _ HB1.out).mono ?_
  rintro e w2 ⟨c2, rfl, hr2, hb2⟩
  have HONE2 := Lib.hid (vc_one hr2.any)
  have HR2 := Lib.hid ((hb2.block _ (by rw [HZ1.out]; omega)).trans HR1.out)
  have HB2 := Lib.hid (HB1.out.trans (hb2.mono HB1.out.size))
  have HRD2 : Hid (RdI w2 (fun b => w.heap.size < b) c2 (o.getD v0)) := hr2.mono fun b hb => by have := HZ1.out; omega
  have HZ2 : Hid (w.heap.size < w2.heap.size) := by unfold Hid; have := hb2.size; have := HZ1.out; omega
  clear hr2 hb2 HC1 HF HB1 HR1
  go_upto_if 16 with (refine wpl_new rfl rfl stVk rfl (cs := VC.cells c2) rfl (cells_len _) HONE2.out rfl rfl rfl ?_; generalize hW1 : World.alloc w2 _ = w3; obtain ⟨ha3, _, hz3, hb3⟩ := alloc_of' hW1; have HA3 := Lib.hid ha3; have HB3 := Lib.hid (HB2.out.trans (hb3.mono HB2.out.size)); have HR3 := Lib.hid ((hb3.block _ HZ2.out).trans HR2.out); have HRD3 := Lib.hid (HRD2.out.stays hb3); have HL3 := Lib.hid ((HB3.out.block _ hgl).trans HL.out); have HZ3 := Lib.hid hz3; clear hW1 ha3 hb3 hz3)
  cases hq : o.isSome with
  | false =>
    have HR4 := HR3
    have HRD4 := HRD3
    have HL4 : Hid (w3.heap[gl]? = some (.cells #[.int .i64 (n - b1 o.isSome)] 3 (0, 0))) := by unfold Hid; rw [hq]; simpa [b1] using HL3.out
    have HG4 : Hid (w.grownBy w3 (some gl)) := ⟨HB3.out.os, HB3.out.tape, HB3.out.output, HB3.out.size, fun b h1 _ => HB3.out.block b h1⟩
    have HA : Hid (∀ j, j < 13 → w3.cell? ⟨w2.heap.size, 0 + j, none⟩ = (VC.cells c2)[j]?) := rowV HA3.out
    have HQ := Lib.hid hq
    clear hq HA3 HR3 HRD3 HL3 HB3
    go_wp2_with (first
      | refine wpl_load rfl rfl stVk rfl (cells_len _) HA.out ?_
      | (refine wpl_store rfl rfl stVk.2 rfl rfl (cs := VC.cells c2) rfl (cells_len _) HONE2.out HR4.out (Nat.le_refl 13) (row := VC.cells c2) (by rw [List.take_zero, List.nil_append, List.drop_of_length_le (by decide), List.append_nil]) ?_; generalize hW3 : World.setRow _ _ _ = w5; obtain ⟨hd5, hk5, hz5, hb5⟩ := setRow_of hW3 HR4.out; clear hW3))
    refine bodyPost_ret (results_two rfl _ _ w.heap.size _ _ _ _ _ rfl rfl hd5 Tryz.underlying30 rfl (by kernel_rfl)) rfl ⟨c2, by rw [HQ.out]; cases counts <;> rfl, ?_, ?_, ?_⟩
    · exact (HRD4.out.kept (fun b hb _ => hk5 b (by omega)) (by omega)).mono (fun b hb => by omega)
    · exact ⟨(hb5 _ (Nat.le_refl _)).os.trans HG4.out.os, (hb5 _ (Nat.le_refl _)).tape.trans HG4.out.tape, (hb5 _ (Nat.le_refl _)).output.trans HG4.out.output, by have := HG4.out.size; omega, fun b h1 h2 => (hk5 b (by omega)).trans (HG4.out.block b h1 h2)⟩
    · exact (hk5 gl (by omega)).trans HL4.out
  | true =>
    have hcl : w3.cell? ⟨gl, 0, none⟩ = some (.int .i64 n) := cell_of_row _ _ _ _ _ _ HL3.out
    have HQ := Lib.hid hq
    clear hq
    go_upto_region 4 with (refine wpl_store rfl rfl stI rfl rfl (cs := [.int .i64 (n - 1)]) rfl rfl (by intro u hu; rw [List.mem_singleton.1 hu]; rfl) HL3.out (Nat.le_refl 1) (row := [.int .i64 (n - 1)]) rfl ?_; generalize hW4 : World.setRow _ _ _ = w4; obtain ⟨hd4, hk4, hz4, hb4⟩ := setRow_of hW4 HL3.out; have HR4 := Lib.hid ((hk4 w.heap.size (by omega)).trans HR3.out); have HRD4 := Lib.hid (HRD3.out.kept (fun b hb _ => hk4 b (by omega)) (by omega)); have HL4 := Lib.hid hd4; have HG4 : Hid (w.grownBy w4 (some gl)) := (⟨(hb4 gl (Nat.le_refl _)).os.trans HB3.out.os, (hb4 gl (Nat.le_refl _)).tape.trans HB3.out.tape, (hb4 gl (Nat.le_refl _)).output.trans HB3.out.output, (by have := HB3.out.size; omega), fun b h1 h2 => (hk4 b (fun h => h2 (by rw [h]))).trans (HB3.out.block b h1)⟩); have HA : Hid (∀ j, j < 13 → w4.cell? ⟨w2.heap.size, 0 + j, none⟩ = (VC.cells c2)[j]?) := (rowV ((hk4 w2.heap.size (by have := HZ2.out; omega)).trans HA3.out)); clear hW4 hd4 hk4 hb4)
    have HL5 : Hid (w4.heap[gl]? = some (.cells #[.int .i64 (n - b1 o.isSome)] 3 (0, 0))) := by unfold Hid; rw [HQ.out]; exact HL4.out
    clear HL4 hcl
    have HL4 := HL5
    clear HL5 HA3 HR3 HRD3 HL3 HB3
    go_wp2_with (first
      | refine wpl_load rfl rfl stVk rfl (cells_len _) HA.out ?_
      | (refine wpl_store rfl rfl stVk.2 rfl rfl (cs := VC.cells c2) rfl (cells_len _) HONE2.out HR4.out (Nat.le_refl 13) (row := VC.cells c2) (by rw [List.take_zero, List.nil_append, List.drop_of_length_le (by decide), List.append_nil]) ?_; generalize hW3 : World.setRow _ _ _ = w5; obtain ⟨hd5, hk5, hz5, hb5⟩ := setRow_of hW3 HR4.out; clear hW3))
    refine bodyPost_ret (results_two rfl _ _ w.heap.size _ _ _ _ _ rfl rfl hd5 Tryz.underlying30 rfl (by kernel_rfl)) rfl ⟨c2, by rw [HQ.out]; cases counts <;> rfl, ?_, ?_, ?_⟩
    · exact (HRD4.out.kept (fun b hb _ => hk5 b (by omega)) (by omega)).mono (fun b hb => by omega)
    · exact ⟨(hb5 _ (Nat.le_refl _)).os.trans HG4.out.os, (hb5 _ (Nat.le_refl _)).tape.trans HG4.out.tape, (hb5 _ (Nat.le_refl _)).output.trans HG4.out.output, by have := HG4.out.size; omega, fun b h1 h2 => (hk5 b (by omega)).trans (HG4.out.block b h1 h2)⟩
    · exact (hk5 gl (by omega)).trans HL4.out
end Go.Proofs.YthdninnjjmhpfaaGreatDoor

namespace Go.Proofs.YthdninnjjmhpfaaGreatDoor
open Go.RowKit Go.Shelf
set_option maxHeartbeats 2000000
set_option maxRecDepth 100000

def lowN (n : Nat) : Nat := if n / 32 % 2 = 1 then n else n + 32
theorem low_bits : ∀ n : Fin 256, bits .or .u8 (n.val : Int) 32 = ((lowN n.val : Nat) : Int) := by decide +kernel
theorem lower_any (c : UInt8) (w : World) : Calls Tryz.prog 209 #[.int .u8 c.toNat] w fun e w' => e = .returned (.int .u8 (lowN c.toNat)) ∧ w = w' := by
  have hb := low_bits ⟨c.toNat, c.toNat_lt⟩
  go_enter Tryz.func209, Tryz.ntmps209
  go_wp2_with fail
  go_ret
  exact ⟨rfl, rfl⟩
theorem hex_class0 : ∀ n : Fin 256,
    (48 ≤ n.val ∧ n.val ≤ 57 ∧ hexd1 (UInt8.ofNat n.val) = some (n.val - 48)) ∨ (57 < n.val ∧ n.val ≠ 95 ∧ 97 ≤ lowN n.val ∧ lowN n.val ≤ 102 ∧ hexd1 (UInt8.ofNat n.val) = some (lowN n.val - 87)) ∨ (57 < n.val ∧ n.val ≠ 95 ∧ 103 ≤ lowN n.val ∧ lowN n.val ≤ 122 ∧ hexd1 (UInt8.ofNat n.val) = none)
    ∨ (n.val < 48 ∧ lowN n.val < 97 ∧ hexd1 (UInt8.ofNat n.val) = none) ∨ (57 < n.val ∧ n.val ≠ 95 ∧ lowN n.val < 97 ∧ hexd1 (UInt8.ofNat n.val) = none) ∨ (57 < n.val ∧ n.val ≠ 95 ∧ 122 < lowN n.val ∧ hexd1 (UInt8.ofNat n.val) = none) ∨ (n.val = 95 ∧ hexd1 (UInt8.ofNat n.val) = none) := by decide +kernel
def uintV (o : Option Nat) : Value := match o with
  | some v => .tuple #[.int .u64 (v : Int), .nilIface]
  | none => .tuple #[.int .u64 0, .iface 173 (.int .i64 2)]
def hexF (acc : Nat) : List UInt8 → Option Nat
  | [] => some acc
  | b :: t => match hexd1 b with
    | some d => hexF (acc * 16 + d) t
    | none => none
theorem hexF_one (a : UInt8) : hexF 0 [a] = hexs [a] := by
  simp only [hexF, hexs]
  cases hexd1 a <;> simp
theorem hexF_two (a b : UInt8) : hexF 0 [a, b] = hexs [a, b] := by
  simp only [hexF, hexs]
  cases hexd1 a with
  | none => rfl
  | some x => cases hexd1 b <;> simp [Nat.mul_comm]
theorem PU_any (s : ByteArray) (h1 : 1 ≤ s.size) (h2 : s.size ≤ 2) (w : World) :
    Calls Tryz.prog 194 #[.string s, .int .i64 16, .int .i64 8] w fun e w' => e = .returned (uintV (hexF 0 (L s))) ∧ Below w.heap.size w w' := by
  have hne : s.toList.isEmpty = false := by rw [Bool.eq_false_iff, ne_eq, neE]; omega
  have hcv := Lib.run_convert_string_bytes (P := Tryz.prog) w 9 26 5 s (u := .string) Tryz.underlying9 Tryz.underlying26 Tryz.underlying5
  have hB : ∀ j (hj : j < s.size), (Lib.bytesWorld w 5 s).cell? ⟨w.heap.size, j, none⟩ = some (.int .u8 (s[j].toNat : Int)) := fun j hj => by
    rw [Lib.bytesWorld_cell w 5 s j hj]
    have : s.data.toList.getD j 0 = s[j] := by
      rw [List.getD_eq_getElem?_getD, List.getElem?_eq_getElem (by rw [Array.length_toList, ByteArray.size_data]; exact hj)]
      rfl
    rw [this]
  have hbw : Below w.heap.size w (Lib.bytesWorld w 5 s) := Go.Joins.below_bytesWorld _ _ _ _ (Nat.le_refl _)
  obtain ⟨W1, hW1⟩ : ∃ W1, W1 = Lib.bytesWorld w 5 s := ⟨_, rfl⟩
  rw [← hW1] at hB hcv hbw
  clear hW1
  generalize grownCap w s.size 0 5 = cap at *
  have HB := Lib.hid hB; clear hB
  have HBW := Lib.hid hbw; clear hbw
  go_enter Tryz.func194, Tryz.ntmps194
  go_wp2
  go_loop [12, 13, 101] (fun vu vn vi => ∃ (k acc : Nat) (a : Int), vu = .bool false ∧ vn = .int .u64 a ∧ vi = .int .i64 k ∧ k ≤ s.size ∧ Hid (a = (acc : Int) ∧ acc < 16 ^ k ∧ hexF 0 (L s) = hexF acc ((L s).drop k))) (fun _ _ vi => s.size - (intOf vi).toNat)
  case atStart => exact ⟨0, 0, 0, rfl, rfl, rfl, Nat.zero_le _, rfl, by decide, rfl⟩
  case round =>
    obtain ⟨k, acc, a, rfl, rfl, rfl, hk, HR⟩ := hrel
    by_cases hlt : k < s.size
    case neg =>
      have HF : Hid (uintV (hexF 0 (L s)) = .tuple #[.int .u64 a, .nilIface]) := by
        unfold Hid; rw [HR.out.2.2, L_drop_nil s k (by omega), HR.out.1]; rfl
      clear HR
      go_wp2
      go_ret2
      exact ⟨by rw [HF.out]; rfl, HBW.out⟩
    have hc := HB.out k hlt
    have hacc : acc < 16 := by
      have h := HR.out.2.1
      have : k = 0 ∨ k = 1 := by omega
      rcases this with rfl | rfl <;> simp at h <;> omega
    have ha0 : 0 ≤ a := by have := HR.out.1; omega
    have ha1 : a < 16 := by have := HR.out.1; omega
    have hstep : ∀ d : Nat, d < 16 → hexd1 s[k] = some d → ∃ acc' : Nat, (a * 16 + d : Int) = (acc' : Int) ∧ acc' < 16 ^ (k + 1) ∧ hexF 0 (L s) = hexF acc' ((L s).drop (k + 1)) := by
      intro d hd h
      refine ⟨acc * 16 + d, by have := HR.out.1; omega, ?_, ?_⟩
      · have h := HR.out.2.1
        rw [Nat.pow_succ]
        omega
      · rw [HR.out.2.2, L_drop s k hlt, hexF, h]
    have hbad : hexd1 s[k] = none → Hid (uintV (hexF 0 (L s)) = .tuple #[.int .u64 0, .iface 173 (.int .i64 2)]) := by
      intro h
      unfold Hid
      rw [HR.out.2.2, L_drop s k hlt, hexF, h]
      rfl
    have HST := Lib.hid hstep; clear hstep
    have HBD := Lib.hid hbad; clear hbad HR hacc
    generalize s[k] = c at *
    have hcl := hex_class0 ⟨c.toNat, c.toNat_lt⟩
    have hlow : lowN c.toNat < 256 := by have := c.toNat_lt; unfold lowN; split <;> omega
    simp only [UInt8.ofNat_toNat] at hcl
    rcases hcl with ⟨h1, h2, h3⟩ | ⟨h1, h2, h3, h4, h5⟩ | ⟨h1, h2, h3, h4, h5⟩ | ⟨h1, h2, h5⟩ | ⟨h1, h2, h3, h5⟩ | ⟨h1, h2, h3, h5⟩ | ⟨h1, h5⟩
    · have a1 : (48 : Int) ≤ c.toNat := by omega
      have a2 : (c.toNat : Int) ≤ 57 := by omega
      have a3 : ((c.toNat : Int) == 95) = false := by rw [beq_eq_false_iff_ne]; omega
      obtain ⟨acc', q1, q2, q3⟩ := HST.out _ (by omega) h3
      have HQ : Hid (a * 16 + ((c.toNat : Int) - 48) = (acc' : Int) ∧ acc' < 16 ^ (k + 1) ∧ hexF 0 (L s) = hexF acc' ((L s).drop (k + 1))) := ⟨by omega, q2, q3⟩
      clear h3 HST HBD q1 q2 q3
      go_wp2
      exact ⟨⟨k + 1, acc', _, rfl, rfl, rfl, by omega, HQ⟩, by simp [intOf]; omega⟩
    · obtain ⟨lw, hlw⟩ : ∃ lw, lowN c.toNat = lw := ⟨_, rfl⟩
      have a1 : ¬ (c.toNat : Int) ≤ 57 := by omega
      have a3 : ((c.toNat : Int) == 95) = false := by rw [beq_eq_false_iff_ne]; omega
      have b1 : (97 : Int) ≤ lowN c.toNat := by omega
      have b2 : (lowN c.toNat : Int) ≤ 122 := by omega
      have b3 : (lowN c.toNat : Int) ≤ 102 := by omega
      obtain ⟨acc', q1, q2, q3⟩ := HST.out _ (by omega) h5
      have HQ : Hid (a * 16 + ((lowN c.toNat : Int) - 97 + 10) = (acc' : Int) ∧ acc' < 16 ^ (k + 1) ∧ hexF 0 (L s) = hexF acc' ((L s).drop (k + 1))) := ⟨by omega, q2, q3⟩
      clear h3 h4 h5 HST HBD q1 q2 q3 hlw
      go_wp2_with (go_at_call 209; refine (lower_any _ _).mono ?_; rintro e w' ⟨rfl, rfl⟩)
      exact ⟨⟨k + 1, acc', _, rfl, rfl, rfl, by omega, HQ⟩, by simp [intOf]; omega⟩
    · have HF := HBD.out h5
      clear HST HBD
      have a3 : ((c.toNat : Int) == 95) = false := by rw [beq_eq_false_iff_ne]; omega
      have a0 : (48 : Int) ≤ c.toNat := by omega
      have a1 : ¬ (c.toNat : Int) ≤ 57 := by omega
      have b1 : (97 : Int) ≤ lowN c.toNat := by omega
      have b2 : (lowN c.toNat : Int) ≤ 122 := by omega
      have b3 : ¬ (lowN c.toNat : Int) ≤ 102 := by omega
      go_wp2_with (go_at_call 209; refine (lower_any _ _).mono ?_; rintro e w' ⟨rfl, rfl⟩)
      all_goals (go_ret2; exact ⟨by rw [HF.out]; rfl, HBW.out⟩)
    · have HF := HBD.out h5
      clear HST HBD
      have a3 : ((c.toNat : Int) == 95) = false := by rw [beq_eq_false_iff_ne]; omega
      have a1 : ¬ (48 : Int) ≤ c.toNat := by omega
      have b1 : ¬ (97 : Int) ≤ lowN c.toNat := by omega
      go_wp2_with (go_at_call 209; refine (lower_any _ _).mono ?_; rintro e w' ⟨rfl, rfl⟩)
      all_goals (go_ret2; exact ⟨by rw [HF.out]; rfl, HBW.out⟩)
    · have HF := HBD.out h5
      clear HST HBD
      have a3 : ((c.toNat : Int) == 95) = false := by rw [beq_eq_false_iff_ne]; omega
      have a0 : (48 : Int) ≤ c.toNat := by omega
      have a1 : ¬ (c.toNat : Int) ≤ 57 := by omega
      have b1 : ¬ (97 : Int) ≤ lowN c.toNat := by omega
      go_wp2_with (go_at_call 209; refine (lower_any _ _).mono ?_; rintro e w' ⟨rfl, rfl⟩)
      all_goals (go_ret2; exact ⟨by rw [HF.out]; rfl, HBW.out⟩)
    · have HF := HBD.out h5
      clear HST HBD
      have a3 : ((c.toNat : Int) == 95) = false := by rw [beq_eq_false_iff_ne]; omega
      have a0 : (48 : Int) ≤ c.toNat := by omega
      have a1 : ¬ (c.toNat : Int) ≤ 57 := by omega
      have b1 : (97 : Int) ≤ lowN c.toNat := by omega
      have b2 : ¬ (lowN c.toNat : Int) ≤ 122 := by omega
      go_wp2_with (go_at_call 209; refine (lower_any _ _).mono ?_; rintro e w' ⟨rfl, rfl⟩)
      all_goals (go_ret2; exact ⟨by rw [HF.out]; rfl, HBW.out⟩)
    · have HF := HBD.out h5
      clear HST HBD
      have a3 : ((c.toNat : Int) == 95) = true := by rw [beq_iff_eq]; omega
      have a0 : (48 : Int) ≤ c.toNat := by omega
      have a1 : ¬ (c.toNat : Int) ≤ 57 := by omega
      have b0 : lowN c.toNat = 127 := by rw [h1]; rfl
      have b1 : (97 : Int) ≤ lowN c.toNat := by omega
      have b2 : ¬ (lowN c.toNat : Int) ≤ 122 := by omega
      clear b0 h1 h5
      go_wp2_with (go_at_call 209; refine (lower_any _ _).mono ?_; rintro e w' ⟨rfl, rfl⟩)
      all_goals (go_ret2; exact ⟨by rw [HF.out]; rfl, HBW.out⟩)
theorem ParseUint_ok (s : ByteArray) (h1 : 1 ≤ s.size) (h2 : s.size ≤ 2) (n : Nat) (h : hexF 0 (L s) = some n) (w : World) :
    Calls Tryz.prog 172 #[.string s, .int .i64 16, .int .i64 8] w fun e w' => e = .returned (.tuple #[.int .u64 (n : Int), .nilIface]) ∧ Below w.heap.size w w' := by
  have HP := Lib.hid (PU_any s h1 h2)
  have HV : Hid (uintV (hexF 0 (L s)) = .tuple #[.int .u64 (n : Int), .nilIface]) := by unfold Hid; rw [h]; rfl
  clear h
  go_enter Tryz.func172, Tryz.ntmps172
  go_wp2_with fail
  refine (HP.out _).mono ?_
  rintro e w1 ⟨rfl, hb1⟩
  rw [HV.out]
  go_wp2_with fail
  go_ret2
  exact ⟨rfl, hb1⟩
theorem ParseUint_no (s : ByteArray) (h1 : 1 ≤ s.size) (h2 : s.size ≤ 2) (h : hexF 0 (L s) = none) (w : World) (he : Env w) :
    Calls Tryz.prog 172 #[.string s, .int .i64 16, .int .i64 8] w fun e w' => (∃ N, e = .returned (.tuple #[.int .u64 0, .iface 176 (.pointer (some ⟨N, 0, none⟩))])) ∧ Below w.heap.size w w' := by
  have HP := Lib.hid (PU_any s h1 h2)
  have HV : Hid (uintV (hexF 0 (L s)) = .tuple #[.int .u64 0, .iface 173 (.int .i64 2)]) := by unfold Hid; rw [h]; rfl
  clear h
  have HE := Lib.hid he; clear he
  go_enter Tryz.func172, Tryz.ntmps172
  go_wp2_with fail
  refine (HP.out _).mono ?_
  rintro e w1 ⟨rfl, hb1⟩
  rw [HV.out]
  obtain ⟨-, -, ev, hv, hev⟩ := HE.out.below hb1
  have HC := Lib.hid (Tryz.strconv_toError_syntax ⟨#[80, 97, 114, 115, 101, 85, 105, 110, 116]⟩ s 16 8 ev w1 (by omega) hv hev)
  clear hv hev
  go_wp2_with fail
  refine (HC.out).mono ?_
  rintro e w2 ⟨N, rfl, _, _, hb2⟩
  go_wp2_with fail
  go_ret2
  exact ⟨⟨N, rfl⟩, hb1.trans (hb2.mono hb1.size)⟩
end Go.Proofs.YthdninnjjmhpfaaGreatDoor
