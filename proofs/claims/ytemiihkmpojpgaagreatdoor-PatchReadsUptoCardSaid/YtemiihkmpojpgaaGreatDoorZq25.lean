/- What a value is as a change: plain words; the two readings agree. Results of two parts, the first a struct. patch.read$1 walked. Conditions: values of at most 10^6 nodes, at most 65536 deep. -/
import Derived.Test.YtemiihkmpojpgaaGreatDoorZq16
import Derived.Test.YtemiihkmpojpgaaGreatDoorZq24
import Derived.Test.YtemiihkmpojpgaaGreatDoorZq21
import Derived.Test.YtemiihkmpojpgaaGreatDoorZq19
import Derived.Deep.RegionHeld3
import Derived.Test.YtemiihkmpojpgaaGreatDoorZq14
import Derived.Deep.QuietTactic
import Derived.BigQuiet
import Derived.WalkSpells
import Derived.WalkLawsBesides
import Derived.Test.YtemiihkmpojpgaaGreatDoorZq22
namespace Go.Proofs.YtemiihkmpojpgaaGreatDoor
open Go.RowKit
set_option maxHeartbeats 1000000
set_option maxRecDepth 100000

abbrev hdK (k : Int) : Hd := ⟨k, false, false, ⟨#[]⟩, 0, 0, 0, 0, 0, ⟨#[]⟩, []⟩
theorem okK (k : Int) (hk : I64 k) : HdOk (hdK k) := ⟨hk, i64_0, i64_0, i64_0, i64_0, i64_0, emp_le, emp_le, Nat.zero_le _⟩
def vT (s : ByteArray) : V := .mk (hdT s) [] []
def intR (n : Int) : DecR := normL false (numL n.toNat) 0
def vI (n : Int) : V := .mk (hdN (intR n).neg ⟨(intR n).ds.toArray⟩ (intR n).e) [] []
/-- The names of the fields. -/
def kOp : ByteArray := ⟨#[111, 112]⟩
def kPath : ByteArray := ⟨#[112, 97, 116, 104]⟩
def kAt : ByteArray := ⟨#[97, 116]⟩
def kOld : ByteArray := ⟨#[111, 108, 100]⟩
def kNew : ByteArray := ⟨#[110, 101, 119]⟩
def keyB (x : Ch) : Bool := movB x.op && lastK x.p
def wr2 (x : Ch) : List (ByteArray × V) := [(kOp, vT (nameS x.op)), (kPath, vT ⟨(textL x.p).toArray⟩)]
def wr3 (x : Ch) : List (ByteArray × V) := wr2 x ++ if keyB x = true then [(kAt, vI x.pos)] else []
def wr4 (x : Ch) : List (ByteArray × V) := wr3 x ++ if oldB x.op = true then [(kOld, x.o)] else []
def wr5 (x : Ch) : List (ByteArray × V) := wr4 x ++ if newB x.op = true then [(kNew, x.n)] else []
def wrV (x : Ch) : V := .mk (hdK 7) [] (wr5 x)
def wrL (xs : List Ch) : V := .mk (hdK 6) (xs.map wrV) []
def v0 : V := .mk (hdK 0) [] []
/-- What Write answers. -/
def wrR (xs : List Ch) : V × Nat := if (firstL xs).2 ≠ 0 then (v0, (firstL xs).2) else if checkV (wrL xs) ≠ 0 then (v0, checkV (wrL xs)) else (wrL xs, 0)

/-- The row o of one's own reads as the list l, whose elements lie in blocks of T, not in the row's own. -/
def OwnN {α β : Type} (e : TypeId) (size : Nat) (cells : β → List Value) (rd : World → (Nat → Prop) → β → α → Prop) (T : Nat → Prop) (w : World) (base : Nat) (o : Value) (l : List α) : Prop :=
  ∃ cs : List β, cs.length = l.length ∧ w.ownsRow base e size o l.length (cs.flatMap cells) ∧ ∀ i (h : i < l.length) (h' : i < cs.length), rd w (fun b => T b ∧ some b ≠ o.ownBlock) cs[i] l[i]
section
variable {α β : Type} {e : TypeId} {size : Nat} {cells : β → List Value} {rd : World → (Nat → Prop) → β → α → Prop} {T : Nat → Prop}
theorem OwnN.nil {w : World} {base : Nat} : OwnN e size cells rd T w base (.slice none 0 0) ([] : List α) :=
  ⟨[], rfl, World.ownsRow_nil _ _ _ _, fun _ h => absurd h (Nat.not_lt_zero _)⟩
theorem OwnN.blk {w : World} {base : Nat} {o : Value} {l : List α} (h : OwnN e size cells rd T w base o l) : ∀ b, o.ownBlock = some b → base ≤ b ∧ b < w.heap.size := by
  obtain ⟨_, _, ho, _⟩ := h
  exact fun b hb => ho.lt b hb
theorem OwnN.below (hs : Stb rd) {w w' : World} {base : Nat} {o : Value} {l : List α} (h : OwnN e size cells rd T w base o l) (hb : Below w.heap.size w w') : OwnN e size cells rd T w' base o l := by
  obtain ⟨cs, hc, hown, hrd⟩ := h
  exact ⟨cs, hc, own_below hown hb, fun i hi hi' => hs.mono (hs.kept (hrd i hi hi') (fun b _ hb' => hb.block b hb') hb.size) (fun b h => h.1)⟩
/-- A store into another block. -/
theorem OwnN.set (hs : Stb rd) {w w' : World} {base g : Nat} {o : Value} {l : List α} (h : OwnN e size cells rd T w base o l) (hg : w.grownBy w' (some g)) (hb : g < base) (hT : ¬ T g) : OwnN e size cells rd T w' base o l := by
  obtain ⟨cs, hc, hown, hrd⟩ := h
  refine ⟨cs, hc, hown.kept hg ?_, fun i hi hi' => hs.mono (hs.kept (hrd i hi hi') (fun b hbT hb' => hg.block b hb' (fun he => ?_)) hg.size) (fun b h => h.1)⟩
  · cases ho : o.ownBlock with
    | none => exact .inl rfl
    | some k =>
      refine .inr (fun he => ?_)
      have := (hown.lt k ho).1
      simp only [Option.some.injEq] at he
      omega
  · simp only [Option.some.injEq] at he
    subst he
    exact hT hbT.1
theorem OwnN.push (hs : Stb rd) {w w' : World} {base : Nat} {o o' : Value} {l : List α} {cs : List β} (hc : cs.length = l.length) (hrd : ∀ i (h : i < l.length) (h' : i < cs.length), rd w (fun b => T b ∧ some b ≠ o.ownBlock) cs[i] l[i])
    {c : β} {x : α} (hx : rd w (fun b => T b ∧ some b ≠ o.ownBlock) c x) (hown : w'.ownsRow base e size o' (l.length + 1) (cs.flatMap cells ++ cells c)) (hg : ∀ b, T b → b < w.heap.size → some b ≠ o.ownBlock → w'.heap[b]? = w.heap[b]?) (hz : w.heap.size ≤ w'.heap.size) (hf : FreshRow w o o') : OwnN e size cells rd T w' base o' (l ++ [x]) := by
  have key : ∀ {c x}, rd w (fun b => T b ∧ some b ≠ o.ownBlock) c x → rd w' (fun b => T b ∧ some b ≠ o'.ownBlock) c x := by
    intro c x h
    refine hs.mono (hs.kept h (fun b hb hb' => hg b hb.1 hb' hb.2) hz) (fun b hb => ⟨hb.1.1, ?_⟩)
    rcases hf with hf | hf
    · rw [hf]; exact hb.1.2
    · intro h'
      have := hf b h'.symm
      have := hb.2
      omega
  refine ⟨cs ++ [c], by simp [hc], ?_, fun i hi hi' => ?_⟩
  · rw [List.length_append, List.flatMap_append]
    simpa using hown
  · rw [List.length_append] at hi hi'
    simp only [List.length_cons, List.length_nil] at hi hi'
    by_cases h : i < l.length
    · rw [List.getElem_append_left h, List.getElem_append_left (by omega)]
      exact key (hrd i h (by omega))
    · have : i = l.length := by omega
      subst this
      rw [List.getElem_append_right (by omega), List.getElem_append_right (by omega)]
      simp only [Nat.sub_self, hc, List.getElem_cons_zero]
      exact key hx
theorem OwnN.sl (hs : Stb rd) (hz : ∀ c, (cells c).length = size) (d : β) {w : World} {base : Nat} {o : Value} {l : List α} (h : OwnN e size cells rd T w base o l) (hl : l.length ≤ 140737488351232) {S : Nat → Prop} (hT : ∀ b, T b → S b) (hB : ∀ b, base ≤ b → b < w.heap.size → S b) :
    ∃ lc : Nat → β, Sl w o l.length size (fun i => cells (lc i)) ∧ (∀ i (h : i < l.length), rd w S (lc i) l[i]) ∧ BlkIn S o := by
  obtain ⟨cs, hc, hown, hrd⟩ := h
  refine ⟨fun i => cs.getD i d, ?_, fun i hi => ?_, ?_⟩
  · rw [← hc]
    rw [← hc] at hown
    exact Sl.of_own cells hz cs hown (by omega) _ (fun i hi => by dsimp only; rw [List.getD_eq_getElem?_getD, List.getElem?_eq_getElem hi]; rfl)
  · have h1 : cs.getD i d = cs[i] := by rw [List.getD_eq_getElem?_getD, List.getElem?_eq_getElem (by omega)]; rfl
    dsimp only
    rw [h1]
    exact hs.mono (hrd i hi (by omega)) (fun b h => hT b h.1)
  · intro g q p n cap hv _
    have := hown.lt g (by rw [hv]; rfl)
    exact hB g this.1 this.2
end
/-- Not the box, and either old or behind it. -/
abbrev TB (B g : Nat) (b : Nat) : Prop := b < B ∨ g < b
/-- The block g holds a map whose fields are the row F. -/
def MapAt (w : World) (g B : Nat) (F : Value) (fl : List (ByteArray × V)) : Prop :=
  w.heap[g]? = some (.cells (VC.cells ⟨hdK 7, .slice none 0 0, .slice none 0 0, F⟩).toArray 30 (0, 0)) ∧ OwnN 53 14 fcells RdF (TB B g) w (g + 1) F fl
theorem MapAt.lt {w : World} {g B : Nat} {F : Value} {fl : List (ByteArray × V)} (h : MapAt w g B F fl) : g < w.heap.size := by
  rcases Nat.lt_or_ge g w.heap.size with h' | h'
  · exact h'
  · have := h.1
    rw [Array.getElem?_eq_none h'] at this
    cases this
theorem MapAt.below {w w' : World} {g B : Nat} {F : Value} {fl : List (ByteArray × V)} (h : MapAt w g B F fl) (hb : Below w.heap.size w w') : MapAt w' g B F fl :=
  ⟨(hb.block g h.lt).trans h.1, h.2.below stbF hb⟩
/-- The map, read. -/
theorem MapAt.rd {w : World} {g B : Nat} {F : Value} {fl : List (ByteArray × V)} (h : MapAt w g B F fl) (hl : fl.length ≤ 140737488351232) {S : Nat → Prop} (hT : ∀ b, TB B g b → S b) : RdI w S ⟨hdK 7, .slice none 0 0, .slice none 0 0, F⟩ (.mk (hdK 7) [] fl) := by
  have nb : ∀ S : Nat → Prop, BlkIn S (.slice none 0 0) := fun S g o p n cap hv _ => by cases hv
  obtain ⟨fc, h1, h2, h3⟩ := h.2.sl stbF fcells_len (⟨#[]⟩, ⟨hdK 0, .slice none 0 0, .slice none 0 0, .slice none 0 0⟩) hl (S := S) hT (fun b hb _ => hT b (.inr hb))
  exact RdI.of_rows (okK 7 ⟨by decide, by decide⟩) Sl.nil (nb _) ⟨fun _ => ⟨hdK 0, .slice none 0 0, .slice none 0 0, .slice none 0 0⟩, Sl.nil, fun i hi => absurd hi (Nat.not_lt_zero _), nb _⟩ ⟨fc, h1, h2, h3⟩
end Go.Proofs.YtemiihkmpojpgaaGreatDoor

namespace Go.Proofs.YtemiihkmpojpgaaGreatDoor
open Go.RowKit
set_option maxHeartbeats 4000000
set_option maxRecDepth 100000

def hdV : V → Hd
  | .mk h _ _ => h
def flV : V → List (ByteArray × V)
  | .mk _ _ f => f
/-- The value of a field. -/
def fieldF (key : ByteArray) : List (ByteArray × V) → Option V
  | [] => none
  | (k, x) :: t => if k = key then some x else fieldF key t
theorem fieldF_drop (key : ByteArray) (f : List (ByteArray × V)) (k : Nat) (h : k < f.length) : fieldF key (f.drop k) = if f[k].1 = key then some f[k].2 else fieldF key (f.drop (k + 1)) := by
  rw [List.drop_eq_getElem_cons h, fieldF]
def FdPost (w : World) (S : Nat → Prop) (o : Option V) (e : Ending) (w' : World) : Prop := ∃ c, e = .returned (.tuple #[aggV c, .bool o.isSome]) ∧ RdI w' S c (o.getD v0) ∧ Below w.heap.size w w'
abbrev c0F : VC := ⟨hdK 0, .slice none 0 0, .slice none 0 0, .slice none 0 0⟩
theorem v0_rdF (w : World) (S : Nat → Prop) : RdI w S c0F v0 := leaf_rd (hdK 0) (okK 0 i64_0) rfl w S
theorem VField_any (key : ByteArray) (v : V) (c : VC) (w : World) (hn : nodV v ≤ 1000000) (hd : depV v ≤ 65536) (hv : RdV w c v) (hk : c.h.kind = 7) :
    Calls Tryz.prog 16 #[aggV c, .string key] w (FdPost w (fun b => w.heap.size ≤ b) (fieldF key (flV v))) := by
  have HONEv := Lib.hid (vc_one hv)
  cases hv with
  | mk h l f bv lv fv lc fc ok hB hl hL hf hK hF _ _ _ =>
  obtain ⟨r, hr⟩ : ∃ r, r = fieldF key f := ⟨_, rfl⟩
  show Calls _ _ _ _ (FdPost w _ (fieldF key f))
  rw [← hr]
  rw [nodV_mk] at hn
  rw [depV_mk] at hd
  obtain ⟨fa, fcap, rfl, hf1, ⟨hf2, _⟩, hf3, hf4⟩ := hf
  have HFS := Lib.hid hf4
  have HFi := Lib.hid hF
  have HNF := Lib.hid (nodF_at f)
  have HDF := Lib.hid (depF_at f)
  obtain ⟨a0, a1, a2, a3, a4, a5, a6, a7, a8, a9, a10⟩ := h
  obtain rfl : a0 = 7 := hk
  have HR0 : Hid (r = fieldF key (f.drop 0)) := hr
  clear hf4 hF hK hB hl hL hr ok hf3
  go_enter Tryz.func16, Tryz.ntmps16
  go_wp2_with fail
  generalize hW1 : World.alloc w _ = w1
  obtain ⟨ha1, -, hz1, hb1⟩ := alloc_of hW1
  generalize hW2 : World.alloc w1 _ = wm
  obtain ⟨ha2, -, hz2, hb2⟩ := alloc_of hW2
  have HVX : Hid (wm.heap[w.heap.size]? = some (.cells (VC.cells ⟨⟨7, a1, a2, a3, a4, a5, a6, a7, a8, a9, a10⟩, bv, lv, .slice fa f.length fcap⟩).toArray 30 (0, 0))) := (hb2.block _ (by omega)).trans ha1
  have HRX : Hid (wm.heap[w.heap.size + 1]? = some (.cells (VC.cells c0F).toArray 30 (0, 0))) := by rw [← hz1]; exact ha2
  have HBM : Hid (Below w.heap.size w wm) := hb1.trans (hb2.mono (by omega))
  have HZM : Hid (wm.heap.size = w.heap.size + 2) := by unfold Hid; omega
  clear hW1 hW2 ha1 ha2 hb1 hb2 hz1 hz2
  obtain ⟨⟨x0, -, -, -, -, -, -, -, -, -, -, -, x12⟩, -⟩ := box13 HVX.out
  go_wp2_with fail
  clear x0 x12
  go_loopw [11] (fun iv wr => ∃ k : Nat, k ≤ f.length ∧ iv = .int .i64 k ∧ Hid (r = fieldF key (f.drop k)) ∧ Hid (Below wm.heap.size wm wr)) (fun iv _ => f.length - (intOf iv).toNat)
  case atStart => exact ⟨0, Nat.zero_le _, rfl, HR0.out, Below.refl _ _⟩
  case round =>
    clear HR0
    obtain ⟨k, hk, rfl, HR, HB⟩ := hrel
    by_cases hlt : k < f.length
    case neg =>
      have HF : Hid (r = none) := by unfold Hid; rw [HR.out, List.drop_of_length_le (by omega), fieldF]
      clear HR
      have HX4 := Lib.hid ((HB.out.block _ (by rw [HZM.out]; omega)).trans HRX.out)
      have HONE0 := Lib.hid (vc_one (v0_rdF w (fun _ => True)))
      go_wp2_with (refine wpl_store rfl rfl stVk.2 rfl rfl (cs := VC.cells c0F) rfl (cells_len _) HONE0.out HX4.out (Nat.le_refl 13) (row := VC.cells c0F) rfl ?_; generalize hW3 : World.setRow _ _ _ = w5; obtain ⟨hd3, hk3, hz3, hb3⟩ := setRow_of hW3 HX4.out; clear hW3)
      obtain ⟨⟨z0, z1, z2, z3, z4, z5, z6, z7, z8, z9, z10, z11, z12⟩, zf⟩ := box13 hd3
      exact bodyPost_ret (v := .tuple #[aggV c0F, .bool false]) (by simp [results, Tryz.results16, go_sem, z0, z1, z2, z3, z4, z5, z6, z7, z8, z9, z10, z11, z12]) rfl ⟨c0F, by rw [HF.out]; rfl, by rw [HF.out]; exact v0_rdF _ _, (HBM.out.trans (HB.out.mono (by rw [HZM.out]; omega))).trans (hb3 _ (by omega))⟩
    obtain ⟨g, o, rfl, hg, hat⟩ := HFS.out (by omega)
    have hrd := HFi.out k hlt
    have HS := HR.out
    rw [fieldF_drop key f k hlt] at HS
    replace HS := Lib.hid HS
    have hfk : (f.getD k (⟨#[]⟩, V.mk ⟨7, a1, a2, a3, a4, a5, a6, a7, a8, a9, a10⟩ l f)).1 = f[k].1 := by rw [List.getD_eq_getElem?_getD, List.getElem?_eq_getElem hlt]; rfl
    have hn1 := HNF.out k hlt
    have hd1 := HDF.out k hlt
    have hww : Below w.heap.size w wr := HBM.out.trans (HB.out.mono (by rw [HZM.out]; omega))
    have hc14 : Hid (∀ j, j < 14 → wr.cell? ⟨g, o + k * 14 + j, none⟩ = (Value.string f[k].1 :: (fc k).cells)[j]?) := fun j hj => by rw [← hfk]; exact (hww.cell hg).trans (hat k hlt j hj)
    have HONEc : Hid (∀ u ∈ Value.string f[k].1 :: (fc k).cells, u.oneCell' = true) := fun u hu => by
      rcases List.mem_cons.1 hu with rfl | hu
      · rfl
      · exact vc_one hrd u hu
    have HRD := Lib.hid (hrd.stays hww)
    clear hat hfk hrd HR hww
    generalize f[k] = fx at *
    obtain ⟨kx, vx⟩ := fx
    dsimp only at hn1 hd1
    generalize fc k = cx at *
    obtain ⟨⟨x0, -, -, -, -, -, -, -, -, -, -, -, -⟩, -⟩ := box13 ((HB.out.block _ (by rw [HZM.out]; omega)).trans HVX.out)
    have hzx : w.heap.size < wr.heap.size := by have := HB.out.size; have := HZM.out; omega
    by_cases hkey : kx = key
    case pos =>
      subst hkey
      have HF : Hid (r = some vx) := by unfold Hid; rw [HS.out, if_pos rfl]
      clear HS
      go_wp2_with (first
        | refine wpl_load rfl rfl stFk rfl (by rw [List.length_cons, cells_len]) hc14.out ?_
        | (refine wpl_new rfl rfl stFk rfl (cs := Value.string kx :: cx.cells) rfl (by rw [List.length_cons, cells_len]) HONEc.out rfl rfl rfl ?_; generalize hW1 : World.alloc wr _ = w1; obtain ⟨ha1, _, hz1, hb1⟩ := alloc_of' hW1; have HA1 := Lib.hid ha1; have HB1 := Lib.hid hb1; have y0 := (hb1.cell (p := ⟨w.heap.size, 0, none⟩) hzx).trans x0; have yk : w1.cell? ⟨wr.heap.size, 0, none⟩ = some (.string kx) := cell_of_row _ _ _ _ _ _ ha1; clear hW1 ha1 hb1)
        | refine wpl_load rfl rfl stVk rfl (cells_len cx) (fun j _ => by rw [cell_of_row _ _ _ _ _ _ HA1.out, List.getElem?_toArray, Nat.add_comm 1 j, List.getElem?_cons_succ]) ?_)
      refine (copied_any _ vx cx w1 65536 (Nat.le_refl _) (by omega) (by omega) (by omega) (HRD.out.stays HB1.out)).mono ?_
      rintro e w2 ⟨c2, rfl, hr2, hb2⟩
      have HX4 := Lib.hid ((hb2.block _ (by have := HB1.out.size; have := HZM.out; omega)).trans ((HB1.out.block _ (by have := HB.out.size; have := HZM.out; omega)).trans ((HB.out.block _ (by rw [HZM.out]; omega)).trans HRX.out)))
      have HBB := Lib.hid (((HBM.out.trans (HB.out.mono (by rw [HZM.out]; omega))).trans (HB1.out.mono (by omega))).trans (hb2.mono (by have := HB1.out.size; omega)))
      have HONE2 := Lib.hid (vc_one hr2.any)
      have HR2 : Hid (RdI w2 (fun b => w.heap.size + 1 < b) c2 vx) := hr2.mono fun b hb => by have := HB1.out.size; have := HB.out.size; have := HZM.out; omega
      clear hb2 hr2 HB1 HA1 yk y0
      go_wp2_with (refine wpl_store rfl rfl stVk.2 rfl rfl (cs := VC.cells c2) rfl (cells_len _) HONE2.out HX4.out (Nat.le_refl 13) (row := VC.cells c2) (by rw [List.take_zero, List.nil_append, List.drop_of_length_le (by decide), List.append_nil]) ?_; generalize hW3 : World.setRow _ _ _ = w5; obtain ⟨hd3, hk3, hz3, hb3⟩ := setRow_of hW3 HX4.out; clear hW3)
      obtain ⟨⟨z0, z1, z2, z3, z4, z5, z6, z7, z8, z9, z10, z11, z12⟩, zf⟩ := box13 hd3
      exact bodyPost_ret (v := .tuple #[aggV c2, .bool true]) (by simp [results, Tryz.results16, go_sem, z0, z1, z2, z3, z4, z5, z6, z7, z8, z9, z10, z11, z12]) rfl ⟨c2, by rw [HF.out]; rfl, by rw [HF.out]; exact (HR2.out.kept (fun b hb _ => hk3 b (by omega)) (by omega)).mono (fun b hb => by omega), HBB.out.trans (hb3 _ (by omega))⟩
    case neg =>
      have hq : (kx.toList == key.toList) = false := by
        rw [beq_eq_false_iff_ne]
        intro h
        rw [toList_L, toList_L] at h
        exact hkey (L_inj h)
      have HF : Hid (r = fieldF key (f.drop (k + 1))) := by unfold Hid; rw [HS.out, if_neg hkey]
      clear HS hkey
      go_wp2_with (first
        | refine wpl_load rfl rfl stFk rfl (by rw [List.length_cons, cells_len]) hc14.out ?_
        | (refine wpl_new rfl rfl stFk rfl (cs := Value.string kx :: cx.cells) rfl (by rw [List.length_cons, cells_len]) HONEc.out rfl rfl rfl ?_; generalize hW1 : World.alloc wr _ = w1; obtain ⟨ha1, _, hz1, hb1⟩ := alloc_of' hW1; have HB1 := Lib.hid hb1; have y0 := (hb1.cell (p := ⟨w.heap.size, 0, none⟩) hzx).trans x0; have yk : w1.cell? ⟨wr.heap.size, 0, none⟩ = some (.string kx) := cell_of_row _ _ _ _ _ _ ha1; clear hW1 ha1 hb1))
      exact ⟨⟨k + 1, by omega, rfl, HF, HB.out.trans (HB1.out.mono HB.out.size)⟩, by simp [intOf]; omega⟩
theorem RField_any (key : ByteArray) (v : V) (c : VC) (w : World) (S : Nat → Prop) (hS : S (w.heap.size + 1) → False) (hv : RdI w S c v) :
    Calls Tryz.prog 25 #[aggV c, .string key] w (FdPost w S (fieldF key (flV v))) := by
  cases hv with
  | mk h l f bv lv fv lc fc ok hB hl hL hf hK hF _ _ _ =>
  obtain ⟨r, hr⟩ : ∃ r, r = fieldF key f := ⟨_, rfl⟩
  show Calls _ _ _ _ (FdPost w _ (fieldF key f))
  rw [← hr]
  obtain ⟨fa, fcap, rfl, hf1, ⟨hf2, _⟩, hf3, hf4⟩ := hf
  have HFS := Lib.hid hf4
  have HFi := Lib.hid hF
  obtain ⟨a0, a1, a2, a3, a4, a5, a6, a7, a8, a9, a10⟩ := h
  have HR0 : Hid (r = fieldF key (f.drop 0)) := hr
  clear hf4 hF hK hB hl hL hr ok hf3
  go_enter Tryz.func25, Tryz.ntmps25
  go_wp2_with fail
  generalize hW1 : World.alloc w _ = w1
  obtain ⟨ha1, -, hz1, hb1⟩ := alloc_of hW1
  generalize hW2 : World.alloc w1 _ = wm
  obtain ⟨ha2, -, hz2, hb2⟩ := alloc_of hW2
  have HVX : Hid (wm.heap[w.heap.size]? = some (.cells (VC.cells ⟨⟨a0, a1, a2, a3, a4, a5, a6, a7, a8, a9, a10⟩, bv, lv, .slice fa f.length fcap⟩).toArray 30 (0, 0))) := (hb2.block _ (by omega)).trans ha1
  have HRX : Hid (wm.heap[w.heap.size + 1]? = some (.cells (VC.cells c0F).toArray 30 (0, 0))) := by rw [← hz1]; exact ha2
  have HBM : Hid (Below w.heap.size w wm) := hb1.trans (hb2.mono (by omega))
  have HZM : Hid (wm.heap.size = w.heap.size + 2) := by unfold Hid; omega
  clear hW1 hW2 ha1 ha2 hb1 hb2 hz1 hz2
  go_wp2_with fail
  go_loopw [6] (fun iv wr => ∃ k : Nat, k ≤ f.length ∧ iv = .int .i64 k ∧ Hid (r = fieldF key (f.drop k)) ∧ Hid (Below wm.heap.size wm wr)) (fun iv _ => f.length - (intOf iv).toNat)
  case atStart => exact ⟨0, Nat.zero_le _, rfl, HR0.out, Below.refl _ _⟩
  case round =>
    clear HR0
    obtain ⟨k, hk, rfl, HR, HB⟩ := hrel
    obtain ⟨⟨-, -, -, -, -, -, -, -, -, -, -, -, x12⟩, -⟩ := box13 ((HB.out.block _ (by rw [HZM.out]; omega)).trans HVX.out)
    by_cases hlt : k < f.length
    case neg =>
      have HF : Hid (r = none) := by unfold Hid; rw [HR.out, List.drop_of_length_le (by omega), fieldF]
      clear HR
      have HX4 := Lib.hid ((HB.out.block _ (by rw [HZM.out]; omega)).trans HRX.out)
      have HONE0 := Lib.hid (vc_one (v0_rdF w (fun _ => True)))
      go_wp2_with (refine wpl_store rfl rfl stVk.2 rfl rfl (cs := VC.cells c0F) rfl (cells_len _) HONE0.out HX4.out (Nat.le_refl 13) (row := VC.cells c0F) rfl ?_; generalize hW3 : World.setRow _ _ _ = w5; obtain ⟨hd3, hk3, hz3, hb3⟩ := setRow_of hW3 HX4.out; clear hW3)
      obtain ⟨⟨z0, z1, z2, z3, z4, z5, z6, z7, z8, z9, z10, z11, z12⟩, zf⟩ := box13 hd3
      exact bodyPost_ret (v := .tuple #[aggV c0F, .bool false]) (by simp [results, Tryz.results25, go_sem, z0, z1, z2, z3, z4, z5, z6, z7, z8, z9, z10, z11, z12]) rfl ⟨c0F, by rw [HF.out]; rfl, by rw [HF.out]; exact v0_rdF _ _, (HBM.out.trans (HB.out.mono (by rw [HZM.out]; omega))).trans (hb3 _ (by omega))⟩
    obtain ⟨g, o, rfl, hg, hat⟩ := HFS.out (by omega)
    have hrd := HFi.out k hlt
    have HS := HR.out
    rw [fieldF_drop key f k hlt] at HS
    replace HS := Lib.hid HS
    have hfk : (f.getD k (⟨#[]⟩, V.mk ⟨a0, a1, a2, a3, a4, a5, a6, a7, a8, a9, a10⟩ l f)).1 = f[k].1 := by rw [List.getD_eq_getElem?_getD, List.getElem?_eq_getElem hlt]; rfl
    have hww : Below w.heap.size w wr := HBM.out.trans (HB.out.mono (by rw [HZM.out]; omega))
    have yk : wr.cell? ⟨g, o + k * 14, none⟩ = some (.string f[k].1) := by
      have h0 := (hww.cell hg).trans (hat k hlt 0 (by decide))
      rw [hfk] at h0
      exact h0
    have hc13 : Hid (∀ j, j < 13 → wr.cell? ⟨g, o + k * 14 + 1 + j, none⟩ = (fc k).cells[j]?) := fun j hj => by
      have := (hww.cell hg).trans (hat k hlt (1 + j) (by omega))
      rw [Nat.add_assoc]
      rw [this, Nat.add_comm 1 j, List.getElem?_cons_succ]
    have HRD := Lib.hid (hrd.stays hww)
    have HBB := Lib.hid hww
    have HONE2 := Lib.hid (vc_one hrd.any)
    clear hat hfk hrd HR hww
    generalize f[k] = fx at *
    obtain ⟨kx, vx⟩ := fx
    dsimp only at yk
    generalize fc k = cx at *
    have hk0 : (0 : Int) ≤ (k : Int) := by omega
    by_cases hkey : kx = key
    case pos =>
      subst hkey
      have HF : Hid (r = some vx) := by unfold Hid; rw [HS.out, if_pos rfl]
      clear HS
      have HX4 := Lib.hid ((HB.out.block _ (by rw [HZM.out]; omega)).trans HRX.out)
      go_wp2_with (first
        | refine wpl_load rfl rfl stVk rfl (cells_len cx) hc13.out ?_
        | (refine wpl_store rfl rfl stVk.2 rfl rfl (cs := VC.cells cx) rfl (cells_len _) HONE2.out HX4.out (Nat.le_refl 13) (row := VC.cells cx) (by rw [List.take_zero, List.nil_append, List.drop_of_length_le (by decide), List.append_nil]) ?_; generalize hW3 : World.setRow _ _ _ = w5; obtain ⟨hd3, hk3, hz3, hb3⟩ := setRow_of hW3 HX4.out; clear hW3))
      obtain ⟨⟨z0, z1, z2, z3, z4, z5, z6, z7, z8, z9, z10, z11, z12⟩, zf⟩ := box13 hd3
      exact bodyPost_ret (v := .tuple #[aggV cx, .bool true]) (by simp [results, Tryz.results25, go_sem, z0, z1, z2, z3, z4, z5, z6, z7, z8, z9, z10, z11, z12]) rfl ⟨cx, by rw [HF.out]; rfl, by rw [HF.out]; exact (HRD.out.kept (fun b hb _ => hk3 b (fun h => hS (h ▸ hb))) (by omega)), HBB.out.trans (hb3 _ (by omega))⟩
    case neg =>
      have hq : (kx.toList == key.toList) = false := by
        rw [beq_eq_false_iff_ne]
        intro h
        rw [toList_L, toList_L] at h
        exact hkey (L_inj h)
      have HF : Hid (r = fieldF key (f.drop (k + 1))) := by unfold Hid; rw [HS.out, if_neg hkey]
      clear HS hkey
      go_wp2_with fail
      exact ⟨⟨k + 1, by omega, rfl, HF, HB.out⟩, by simp [intOf]; omega⟩
end Go.Proofs.YtemiihkmpojpgaaGreatDoor

namespace Go.Proofs.YtemiihkmpojpgaaGreatDoor
open Go.RowKit
set_option maxHeartbeats 4000000
set_option maxRecDepth 100000

section
variable {P : Program} {ops : Array Oper} {o : Oper} {a : Act} {w : World} {S : World → Prop}
theorem yl_load {ty : TypeId} {m : Nat} {cs : List Value} (ht : StT P ty m) (hm : cs.length = m) (g off : Nat) (hc : ∀ w, S w → ∀ j, j < m → w.cell? ⟨g, off + j, none⟩ = cs[j]?) (hw : Region.wanted o (yielded ops a.tmps) = true) (x : Operand) (ho : o.op = .load ty x) (hx : a.eval x = .pointer (some ⟨g, off, none⟩)) :
    YieldsIf P ops S o (.agg cs.toArray) a := by
  refine .inl ⟨hw, fun w hS => ?_⟩
  unfold execOp
  simp only [ho, hx, Instr.loadAt, Instr.sureAddr, Sem.run_bind, Sem.run_pure, Result.andThen_ok, run_load_cells ht hm (addr_cells hm (hc w hS))]
theorem take_at {Q : Exit → Act → World → Prop} {md : Region.Mode} {oi : Oper} {v : Value} {fuel : Nat} {listed : Array Bool} (i : Nat) (d : Option Tmp) (hi : ops[i]? = some oi) (hd : oi.dst = d) (hs : Region.noSelect ops = true) (hf : Region.free md ops listed i = true) (hr : (Region.ready md ops listed).contains i = true)
    (hQ : ∀ c a w, Q (.panic c) (a.put d v) w → Q (.panic c) a w) (hy : YieldsIf P ops S oi v a) (hS : S w) (h : wpAnyH P md ops Q S fuel (listed.setIfInBounds i true) (a.put d v) w) : wpAnyH P md ops Q S (fuel + 1) listed a w := by
  subst hd
  exact wpAnyH_take hi hs hf hr hQ hy hS h
/-- A store into a block that is known whole, in such a region. -/
theorem step_store {K : Act → World → Prop} {Q : Exit → Act → World → Prop} {E : Prop} {ty : TypeId} {m : Nat} {v : Value} {cs cur : List Value} (row : List Value) (hw : Region.wanted o (yielded ops a.tmps) = true) (x y : Operand) (ho : o.op = .store ty x y) (hi : (P.info? ty).map (·.size) = some m) (g off : Nat) (hx : a.eval x = .pointer (some ⟨g, off, none⟩)) (hy : a.eval y = v) (hv : v.cells.toList = cs) (hm : cs.length = m) (h1 : ∀ u ∈ cs, u.oneCell' = true)
    {t : TypeId} (hg : w.heap[g]? = some (.cells cur.toArray t (0, 0))) (hfit : off + m ≤ cur.length) (hrow : cur.take off ++ cs ++ cur.drop (off + m) = row)
    (h : K (a.put o.dst undef) (w.setRow g row.toArray)) : if Region.wanted o (yielded ops a.tmps) = true then Oper.wp P o a w K Q else E := by
  subst hrow
  rw [if_pos hw]
  unfold Oper.wp execOp
  simp only [ho, hx, hy, Instr.storeAt, Instr.sureAddr, Sem.run_bind, Sem.run_pure, Result.andThen_ok, run_store_v hi hv hm h1 g off hg hfit]
  exact h
end
/-- The last element of a row of one's own, stored anew. -/
theorem own_last {w : World} {base size n : Nat} {e : TypeId} {v : Value} {xs zs cs : List Value} (h : w.ownsRow base e size v (n + 1) (xs ++ zs)) (h0 : 0 < size) (hx : xs.length = n * size) (hz : zs.length = size) (hc : cs.length = size) :
    ∃ (g cap : Nat) (cur : List Value), v = .slice (some ⟨g, 0, none⟩) (n + 1) cap ∧ base ≤ g ∧ g < w.heap.size ∧ n < cap ∧ cap ≤ maxLen ∧ w.heap[g]? = some (.cells cur.toArray e (0, 0)) ∧ n * size + size ≤ cur.length ∧ cur.length = cap * size ∧
      ∀ w' : World, w'.heap[g]? = some (.cells (cur.take (n * size) ++ cs ++ cur.drop (n * size + size)).toArray e (0, 0)) → w'.ownsRow base e size v (n + 1) (xs ++ cs) := by
  have hlen := h.1
  rcases h.2 with ⟨rfl, h00⟩ | ⟨g, cap, cur, rfl, hb, hh, hnc, hcm, hsz, htk⟩
  · exact absurd h00 (Nat.succ_ne_zero n)
  · have hfit : n * size + size ≤ cur.toList.length := by
      rw [Array.length_toList, hsz, ← Nat.succ_mul]
      exact Nat.mul_le_mul_right _ hnc
    refine ⟨g, cap, cur.toList, rfl, hb, (h.lt g rfl).2, hnc, hcm, by simpa using hh, hfit, by simpa using hsz, fun w' hw' => ⟨by simp only [List.length_append, hx, hc, Nat.succ_mul], .inr ⟨g, cap, _, rfl, hb, hw', hnc, hcm, ?_, ?_⟩⟩⟩
    · have h1 := hsz
      rw [← Array.length_toList] at h1
      simp only [List.size_toArray, List.length_append, List.length_take, List.length_drop, hc]
      omega
    · have hk : (cur.toList.take (n * size)) = xs := by
        have h1 : cur.toList.take ((n + 1) * size) = xs ++ zs := htk
        have h2 := congrArg (List.take (n * size)) h1
        rw [List.take_take, Nat.min_eq_left (Nat.mul_le_mul_right _ (Nat.le_succ n)), List.take_append_of_le_length (by omega), (show xs.take (n * size) = xs from List.take_of_length_le (by omega))] at h2
        exact h2
      show (List.toArray _).toList.take ((n + 1) * size) = _
      rw [hk, List.take_append_of_le_length (by simp only [List.length_append, hx, hc, Nat.succ_mul]; omega), List.take_of_length_le (by simp only [List.length_append, hx, hc, Nat.succ_mul]; omega)]
theorem st28 : (Tryz.prog.info? 28).map (·.size) = some 1 := by kernel_rfl
/-- What the closure add does. -/
def AddPost (w : World) (g B : Nat) (fl : List (ByteArray × V)) (e : Ending) (w' : World) : Prop := ∃ F', e = .returned (.tuple #[]) ∧ MapAt w' g B F' fl ∧ Below g w w'
end Go.Proofs.YtemiihkmpojpgaaGreatDoor

namespace Go.Proofs.YtemiihkmpojpgaaGreatDoor
open Go.RowKit
set_option maxHeartbeats 4000000
set_option maxRecDepth 100000

theorem bytesN : BytesT Tryz.prog 26 9 5 := bytesT_of Tryz.underlying26 Tryz.underlying9 Tryz.underlying5 (by kernel_rfl)
theorem u8_info : (Tryz.prog.info? 5).map (fun i => (i.zero, i.size, i.bytes)) = some (some (.int .u8 0), 1, 1) := by kernel_rfl
/-- n zeros, k of them written. -/
def nA (n k : Nat) : List UInt8 := List.replicate k 48 ++ List.replicate (n - k) 0
theorem nA_len (n k : Nat) (h : k ≤ n) : (nA n k).length = n := by unfold nA; simp; omega
theorem made_u8 (n : Nat) : madeCells #[.int .u8 0] (n * 1) = ((nA n 0).map bv).toArray := by
  apply Array.ext_getElem?
  intro i
  unfold madeCells nA
  rw [Array.getElem?_map, Array.getElem?_range, List.getElem?_toArray, List.getElem?_map]
  by_cases h : i < n
  · rw [if_pos (by omega), List.replicate_zero, List.nil_append, List.getElem?_replicate, if_pos (by omega)]
    simp [Nat.mod_one, bv]
  · rw [if_neg (by omega), List.replicate_zero, List.nil_append, List.getElem?_replicate, if_neg (by omega)]
    rfl
theorem make_u8 (n : Nat) (hn : n ≤ 1000000) (w : World) : (Instr.makeSlice 26 (.int .i64 (n : Int)) (.int .i64 (n : Int))).run Tryz.prog w = .ok (.slice (some ⟨w.heap.size, 0, none⟩) n n) (w.alloc (.cells ((nA n 0).map bv).toArray 5)) := by
  obtain ⟨i, hi, hz, hs, hb⟩ := info_parts u8_info
  have hr := run_make (P := Tryz.prog) w 26 5 i _ Tryz.underlying26 hi hz .i64 .i64 n n (by omega) (Int.le_refl _) (by rw [hb]; omega) (by omega)
  rw [hr, Int.toNat_natCast, hs, ← made_u8]
  rfl
theorem nA_set (n k : Nat) (h : k < n) : (((nA n k).map bv).toArray).setIfInBounds k (.int .u8 48) = ((nA n (k + 1)).map bv).toArray := by
  apply Array.ext_getElem?
  intro i
  rw [Array.getElem?_setIfInBounds, List.getElem?_toArray, List.getElem?_toArray, List.getElem?_map, List.getElem?_map]
  unfold nA
  by_cases hi : k = i
  · subst hi
    rw [if_pos rfl, if_pos (by simp; omega), List.getElem?_append_left (by simp), List.getElem?_replicate, if_pos (by omega)]
    rfl
  · rw [if_neg hi]
    by_cases hlt : i < k
    · rw [List.getElem?_append_left (by simp; omega), List.getElem?_append_left (by simp; omega), List.getElem?_replicate, List.getElem?_replicate, if_pos hlt, if_pos (by omega)]
    · rw [List.getElem?_append_right (by simp; omega), List.getElem?_append_right (by simp; omega), List.getElem?_replicate, List.getElem?_replicate]
      simp only [List.length_replicate]
      by_cases h2 : i < n
      · rw [if_pos (by omega), if_pos (by omega)]
      · rw [if_neg (by omega), if_neg (by omega)]
theorem Noughts_any (n : Nat) (w : World) (hn : n ≤ 1000) :
    Calls Tryz.prog 50 #[.int .i64 n] w fun e w' => e = .returned (.string ⟨(List.replicate n (48 : UInt8)).toArray⟩) ∧ Below w.heap.size w w' := by
  have hmk := make_u8 n (by omega)
  go_enter Tryz.func50, Tryz.ntmps50
  go_wp2_with fail
  clear hmk
  generalize hW : World.alloc w _ = w1
  obtain ⟨ha, -, hz, hb⟩ := alloc_of hW
  have HA := Lib.hid ha
  have HB := Lib.hid hb
  clear hW ha hb
  generalize hg : w.heap.size = g at *
  go_loopw [4] (fun iv wr => ∃ k : Nat, k ≤ n ∧ iv = .int .i64 k ∧ Hid (wr.heap[g]? = some (.cells ((nA n k).map bv).toArray 5 (0, 0))) ∧ Hid (Below g w wr)) (fun iv _ => n - (intOf iv).toNat)
  case atStart => exact ⟨0, Nat.zero_le _, rfl, HA.out, HB.out⟩
  case round =>
    clear HA HB hz
    obtain ⟨k, hk, rfl, HA, HB⟩ := hrel
    by_cases hlt : k < n
    case neg =>
      obtain rfl : k = n := by omega
      have hown : wr.ownsRow g 5 1 (.slice (some ⟨g, 0, none⟩) k k) k ((nA k k).map bv) := by
        refine ⟨by rw [List.length_map, nA_len k k (Nat.le_refl _)]; omega, .inr ⟨g, k, _, rfl, Nat.le_refl _, HA.out, Nat.le_refl _, by simp only [maxLen]; omega, by rw [List.size_toArray, List.length_map, nA_len k k (Nat.le_refl _)]; omega, ?_⟩⟩
        rw [List.take_of_length_le (by rw [List.length_map, nA_len k k (Nat.le_refl _)]; omega)]
      have hcv := conv_own bytesN hown
      have hnn : nA k k = List.replicate k 48 := by unfold nA; simp
      rw [hnn] at hcv
      clear hown hnn HA
      go_wp2_with fail
      go_ret
      exact ⟨rfl, by rw [hg]; exact HB.out⟩
    have hc : wr.cell? ⟨g, k, none⟩ = some (.int .u8 0) := by
      rw [cell_of_row _ _ _ _ _ _ HA.out, List.getElem?_toArray, List.getElem?_map]
      unfold nA
      rw [List.getElem?_append_right (by simp), List.getElem?_replicate, if_pos (by simp; omega)]
      rfl
    have hf : wr.frozen? ⟨g, k, none⟩ = false := by simp [World.frozen?, HA.out]
    have HS := Lib.hid (heap_setCell_same wr g k _ _ (.int .u8 48) HA.out)
    rw [nA_set n k hlt] at HS
    clear HA
    go_wp2_with fail
    exact ⟨⟨k + 1, by omega, by go_num, HS.out, HB.out.setCell (Nat.le_refl _) _⟩, by simp [intOf]; omega⟩
/-- The number of digits. -/
def valD (acc : Nat) : List UInt8 → Nat
  | [] => acc
  | b :: t => valD (10 * acc + (b.toNat - 48)) t
theorem valD_snoc : ∀ (l : List UInt8) (a : Nat) (b : UInt8), valD a (l ++ [b]) = 10 * valD a l + (b.toNat - 48)
  | [], a, b => rfl
  | c :: t, a, b => by
    rw [List.cons_append]
    show valD (10 * a + (c.toNat - 48)) (t ++ [b]) = _
    rw [valD_snoc t _ b]
    rfl
theorem take_succ_D (s : ByteArray) (k : Nat) (h : k < s.size) : (L s).take (k + 1) = (L s).take k ++ [s[k]] := by
  rw [List.take_succ_eq_append_getElem (by rw [L_len]; exact h), L_get]
theorem dig_atD (s : ByteArray) (k : Nat) (h : k < s.size) (ha : (L s).all dig = true) : 48 ≤ (s[k]).toNat ∧ (s[k]).toNat ≤ 57 := by
  have hd : dig s[k] = true := List.all_eq_true.1 ha _ (by rw [← L_get s k h]; exact List.getElem_mem _)
  unfold dig at hd
  simp at hd
  omega
theorem rii2 {a b c d : Int} (h : a = b) (h2 : c = d) : Ending.returned (.tuple #[.int .i64 a, .int .i64 c]) = Ending.returned (.tuple #[.int .i64 b, .int .i64 d]) := by rw [h, h2]
theorem wrap_nil : wrap64 ((valD 0 [] : Nat) : Int) = 0 := by
  have : valD 0 [] = 0 := rfl
  rw [this]
  unfold wrap64
  omega
theorem wrap_step (a c b : Nat) (hc : 48 ≤ c) (hb : b = 10 * a + (c - 48)) (m : Int) (hm : wrap64 (a : Int) = m) : wrap64 (wrap64 (wrap64 (10 * m) + wrap64 (c : Int)) - 48) = wrap64 (b : Int) := by
  unfold wrap64 at *
  omega
/-- What ToInt answers: the number as the machine has it; or, for nineteen digits, an error. -/
def TI1 (s : ByteArray) (w : World) (e : Ending) (w' : World) : Prop := (e = .returned (.tuple #[.int .i64 (wrap64 (valD 0 (L s))), .int .i64 0]) ∨ (e = .returned (.tuple #[.int .i64 0, .int .i64 2]) ∧ s.size = 19)) ∧ w = w'
def Cmp19 (s : ByteArray) (v : Value) (w wx : World) : Prop := ∃ b : Bool, v = .bool b ∧ (b = true → s.size = 19) ∧ w = wx
theorem ToInt1_any (s : ByteArray) (w : World) (h19 : s.size ≤ 19) (hn : natB (L s) = true) :
    Calls Tryz.prog 51 #[.string s] w (TI1 s w) := by
  have ha : (L s).all dig = true := by
    unfold natB at hn
    rw [Bool.and_eq_true, Bool.and_eq_true] at hn
    exact hn.2.1
  have HV := Lib.hid (Valid1_any s w (by omega))
  rw [hn] at HV
  have HA := Lib.hid ha
  have h19i : (s.size : Int) ≤ 19 := by omega
  clear hn ha
  go_enter Tryz.func51, Tryz.ntmps51
  go_wp2_with fail
  refine HV.out.mono ?_
  rintro e w' ⟨rfl, rfl⟩
  go_upto_region 3 with fail
  go_cut [20] (fun v wx => Cmp19 s v w wx)
  case first =>
    by_cases h : s.size = 19
    case pos =>
      have hq : ((s.size : Int) == 19) = true := by rw [h]; rfl
      have HH := Lib.hid h
      clear h
      go_wp2_with fail
      go_meet
      exact ⟨_, rfl, fun _ => HH.out, rfl⟩
    case neg =>
      have hq : ((s.size : Int) == 19) = false := by rw [beq_eq_false_iff_ne]; omega
      clear h
      go_wp2_with fail
      · exfalso
        omega
      go_meet
      exact ⟨false, rfl, fun h => absurd h (by decide), rfl⟩
  case rest =>
  obtain ⟨b, rfl, hb, rfl⟩ := hcut
  have HBB := Lib.hid hb
  clear hb
  cases b with
  | true =>
    go_wp2_with fail
    go_ret2
    exact ⟨.inr ⟨rfl, HBB.out (by first | exact rfl | trivial)⟩, rfl⟩
  | false =>
  clear HBB
  go_wp2_with fail
  go_loop [4, 5] (fun n v => ∃ k : Nat, v = .int .i64 k ∧ k ≤ s.size ∧ n = .int .i64 (wrap64 (valD 0 ((L s).take k) : Nat))) (fun _ v => s.size - (intOf v).toNat)
  case atStart => exact ⟨0, rfl, Nat.zero_le _, congrArg (Value.int .i64) (by rw [List.take_zero]; exact wrap_nil.symm)⟩
  case round =>
    obtain ⟨k, rfl, hk, rfl⟩ := hrel
    by_cases hlt : k < s.size
    case neg =>
      have HF : Hid (valD 0 ((L s).take k) = valD 0 (L s)) := by unfold Hid; rw [List.take_of_length_le (by rw [L_len]; omega)]
      clear HA
      go_wp2_with fail
      go_ret2
      exact ⟨.inl (rii2 (by rw [HF.out]) rfl), rfl⟩
    have HN : Hid (valD 0 ((L s).take (k + 1)) = 10 * valD 0 ((L s).take k) + ((s[k]).toNat - 48)) := by unfold Hid; rw [take_succ_D s k hlt, valD_snoc]
    obtain ⟨hd1, hd2⟩ := dig_atD s k hlt HA.out
    have HD1 := Lib.hid hd1
    clear HA hd1 hd2
    generalize valD 0 ((L s).take k) = n at *
    generalize hm : wrap64 (n : Int) = m at *
    have HM := Lib.hid hm
    clear hm
    go_wp2_with fail
    exact ⟨⟨k + 1, by go_num, by omega, congrArg (Value.int .i64) (wrap_step n _ _ HD1.out HN.out m HM.out)⟩, by simp [intOf]; omega⟩
theorem valD_lt : ∀ (l : List UInt8) (a : Nat), (∀ b ∈ l, dig b = true) → valD a l < (a + 1) * 10 ^ l.length
  | [], a, _ => by show a < (a + 1) * 1; omega
  | b :: t, a, h => by
    have hd : dig b = true := h b List.mem_cons_self
    have hd2 : b.toNat ≤ 57 := by unfold dig at hd; simp at hd; omega
    have ih := valD_lt t (10 * a + (b.toNat - 48)) (fun c hc => h c (List.mem_cons_of_mem _ hc))
    show valD (10 * a + (b.toNat - 48)) t < _
    rw [List.length_cons, Nat.pow_succ]
    refine Nat.lt_of_lt_of_le ih ?_
    calc (10 * a + (b.toNat - 48) + 1) * 10 ^ t.length ≤ ((a + 1) * 10) * 10 ^ t.length := Nat.mul_le_mul_right _ (by omega)
      _ = (a + 1) * (10 ^ t.length * 10) := by rw [Nat.mul_assoc, Nat.mul_comm 10]
theorem valD_ge : ∀ (l : List UInt8) (a : Nat), a * 10 ^ l.length ≤ valD a l
  | [], a => by show a * 1 ≤ a; omega
  | b :: t, a => by
    have ih := valD_ge t (10 * a + (b.toNat - 48))
    show _ ≤ valD (10 * a + (b.toNat - 48)) t
    rw [List.length_cons, Nat.pow_succ]
    refine Nat.le_trans ?_ ih
    calc a * (10 ^ t.length * 10) = (a * 10) * 10 ^ t.length := by rw [Nat.mul_assoc, Nat.mul_comm 10]
      _ ≤ (10 * a + (b.toNat - 48)) * 10 ^ t.length := Nat.mul_le_mul_right _ (by omega)
theorem valD_zeros : ∀ (n : Nat) (a : Nat), valD a (List.replicate n 48) = a * 10 ^ n
  | 0, a => by show a = a * 1; omega
  | n + 1, a => by
    rw [List.replicate_succ]
    show valD (10 * a + (48 - 48)) (List.replicate n 48) = _
    rw [valD_zeros n, Nat.pow_succ, Nat.sub_self, Nat.add_zero, Nat.mul_comm 10 a, Nat.mul_assoc, Nat.mul_comm 10]
theorem valD_app : ∀ (l m : List UInt8) (a : Nat), valD a (l ++ m) = valD (valD a l) m
  | [], _, _ => rfl
  | b :: t, m, a => by
    rw [List.cons_append]
    exact valD_app t m _
/-- The whole number from 0 to 65536 that a decimal is. -/
def numD (neg : Bool) (l : List UInt8) (e : Int) : Option Nat :=
  if neg = false ∧ 0 ≤ e ∧ (l.length : Int) + e ≤ 6 ∧ valD 0 l * 10 ^ e.toNat ≤ 65536 then some (valD 0 l * 10 ^ e.toNat) else none
/-- What the number's digits say: its length, and that it is not zero. -/
theorem dec_big {neg : Bool} {l : List UInt8} {e : Int} (h : decB neg l e = true) (_h0 : 0 ≤ e) : (l = [] ∧ neg = false ∧ e = 0) ∨ (1 ≤ l.length ∧ natB l = true ∧ 10 ^ (l.length + e.toNat - 1) ≤ valD 0 (l ++ List.replicate e.toNat 48)) := by
  unfold decB at h
  split at h
  · rename_i hl
    rw [Bool.and_eq_true, Bool.not_eq_true', decide_eq_true_iff] at h
    exact .inl ⟨hl, h.1, h.2⟩
  · rename_i hl
    rw [Bool.and_eq_true, Bool.and_eq_true] at h
    have hn := h.2.1
    refine .inr ⟨by cases l with | nil => exact absurd rfl hl | cons => simp, hn, ?_⟩
    cases l with
    | nil => exact absurd rfl hl
    | cons b t =>
      unfold natB at hn
      rw [Bool.and_eq_true, Bool.and_eq_true, decide_eq_true_iff, decide_eq_true_iff] at hn
      have hd : dig b = true := List.all_eq_true.1 hn.2.1 b List.mem_cons_self
      have hb : 49 ≤ b.toNat := by
        have := hn.2.2
        unfold dig at hd
        simp at hd this
        omega
      rw [List.cons_append]
      show _ ≤ valD (10 * 0 + (b.toNat - 48)) (t ++ List.replicate e.toNat 48)
      refine Nat.le_trans ?_ (valD_ge _ _)
      rw [List.length_append, List.length_replicate, List.length_cons]
      have : t.length + 1 + e.toNat - 1 = t.length + e.toNat := by omega
      rw [this]
      calc 10 ^ (t.length + e.toNat) = 1 * 10 ^ (t.length + e.toNat) := (Nat.one_mul _).symm
        _ ≤ _ := Nat.mul_le_mul_right _ (by omega)
theorem nat_app {l : List UInt8} {k : Nat} (h : natB l = true) (h1 : 1 ≤ l.length) (hk : l.length + k ≤ 19) : natB (l ++ List.replicate k 48) = true := by
  unfold natB at *
  rw [Bool.and_eq_true, Bool.and_eq_true, decide_eq_true_iff, decide_eq_true_iff] at *
  refine ⟨by simp; omega, ?_, ?_⟩
  · rw [List.all_append, h.2.1, Bool.true_and, List.all_eq_true]
    intro b hb
    rw [(List.mem_replicate.1 hb).2]
    rfl
  · cases l with
    | nil => simp at h1
    | cons b t => exact h.2.2
/-- What ToInt of layer 2 answers, as far as it matters. -/
def TI2 (o : Option Nat) (w : World) (e : Ending) (w' : World) : Prop := ∃ n f : Int, e = .returned (.tuple #[.int .i64 n, .int .i64 f]) ∧ (∀ m : Nat, o = some m → n = m ∧ f = 0) ∧ (o = none → f ≠ 0 ∨ n < 0 ∨ 65536 < n) ∧ Below w.heap.size w w'
/-- The answer, out of the digits with their zeros. -/
theorem ti2_of {neg : Bool} {l u : List UInt8} {e : Int} (h : decB neg l e = true) (h0 : 0 ≤ e) (h19 : (l.length : Int) + e ≤ 19) (hu : u = l ++ List.replicate e.toNat 48) :
    natB u = true ∧ (neg = false → (∀ m : Nat, numD neg l e = some m → wrap64 (valD 0 u : Nat) = m) ∧ (numD neg l e = none → wrap64 (valD 0 u : Nat) < 0 ∨ 65536 < wrap64 (valD 0 u : Nat))) ∧ (neg = true → numD neg l e = none ∧ (wrap64 (-(wrap64 (valD 0 u : Nat))) < 0 ∨ 65536 < wrap64 (-(wrap64 (valD 0 u : Nat))))) ∧ (u.length = 19 → numD neg l e = none) := by
  subst hu
  have hval : valD 0 (l ++ List.replicate e.toNat 48) = valD 0 l * 10 ^ e.toNat := by rw [valD_app, valD_zeros]
  have h7 : 6 < (l.length : Int) + e → numD neg l e = none := by
    intro h7
    unfold numD
    rw [if_neg (by intro hh; omega)]
  rcases dec_big h h0 with ⟨rfl, rfl, rfl⟩ | ⟨h1, hn, hb⟩
  · refine ⟨rfl, fun _ => ⟨fun m hm => ?_, fun hm => ?_⟩, (fun h => by cases h), fun h => by simp at h⟩
    · have : numD false [] 0 = some 0 := rfl
      rw [this] at hm
      cases hm
      exact wrap_nil
    · exact absurd hm (by decide)
  · have hnu := nat_app (k := e.toNat) hn h1 (by omega)
    have hlt : valD 0 (l ++ List.replicate e.toNat 48) < 10000000000000000000 := by
      have ha : (l ++ List.replicate e.toNat 48).all dig = true := by
        unfold natB at hnu
        rw [Bool.and_eq_true, Bool.and_eq_true] at hnu
        exact hnu.2.1
      have h2 := valD_lt _ 0 (fun b hb => List.all_eq_true.1 ha b hb)
      have h3 : (10 : Nat) ^ (l ++ List.replicate e.toNat 48).length ≤ 10 ^ 19 := Nat.pow_le_pow_right (by decide) (by simp; omega)
      have h4 : (10 : Nat) ^ 19 = 10000000000000000000 := by decide
      omega
    have hpos : 1 ≤ valD 0 (l ++ List.replicate e.toNat 48) := Nat.le_trans (Nat.pow_pos (by decide)) hb
    refine ⟨hnu, fun hng => ?_, fun hng => ?_, fun hl => h7 (by simp at hl; omega)⟩
    · by_cases h6 : (l.length : Int) + e ≤ 6
      · have hs : valD 0 (l ++ List.replicate e.toNat 48) < 1000000 := by
          have ha : (l ++ List.replicate e.toNat 48).all dig = true := by
            unfold natB at hnu
            rw [Bool.and_eq_true, Bool.and_eq_true] at hnu
            exact hnu.2.1
          have h2 := valD_lt _ 0 (fun b hb => List.all_eq_true.1 ha b hb)
          have h3 : (10 : Nat) ^ (l ++ List.replicate e.toNat 48).length ≤ 10 ^ 6 := Nat.pow_le_pow_right (by decide) (by simp; omega)
          have h4 : (10 : Nat) ^ 6 = 1000000 := by decide
          omega
        unfold numD
        rw [← hval]
        generalize valD 0 (l ++ List.replicate e.toNat 48) = v at *
        have hw : wrap64 (v : Int) = v := by unfold wrap64; omega
        rw [hw]
        by_cases hv : v ≤ 65536
        · rw [if_pos ⟨hng, h0, h6, hv⟩]
          exact ⟨fun m hm => by cases hm; rfl, fun hm => by cases hm⟩
        · rw [if_neg (by intro hh; omega)]
          exact ⟨(fun m hm => by cases hm), fun _ => .inr (by omega)⟩
      · rw [h7 (by omega)]
        have h10 : 1000000 ≤ valD 0 (l ++ List.replicate e.toNat 48) := by
          refine Nat.le_trans ?_ hb
          have h3 : (10 : Nat) ^ 6 ≤ 10 ^ (l.length + e.toNat - 1) := Nat.pow_le_pow_right (by decide) (by omega)
          have h4 : (10 : Nat) ^ 6 = 1000000 := by decide
          omega
        generalize valD 0 (l ++ List.replicate e.toNat 48) = v at *
        exact ⟨(fun m hm => by cases hm), fun _ => by unfold wrap64; omega⟩
    · subst hng
      refine ⟨by unfold numD; rw [if_neg (by intro hh; cases hh.1)], ?_⟩
      generalize valD 0 (l ++ List.replicate e.toNat 48) = v at *
      unfold wrap64
      omega
theorem L_plus (s : ByteArray) (n : Nat) : L (s ++ ⟨Array.replicate n 48⟩) = L s ++ List.replicate n 48 := by
  unfold L
  simp
theorem ToInt2_any (neg : Bool) (s : ByteArray) (e : Int) (w : World) (hd : decB neg (L s) e = true) (he1 : e ≤ 400) (hs : s.size ≤ 120) (hm : -400 ≤ e) :
    Calls Tryz.prog 27 #[.agg #[.bool neg, .string s, .int .i64 e]] w (TI2 (numD neg (L s) e) w) := by
  have HD := Lib.hid hd
  clear hd
  by_cases h0 : 0 ≤ e
  case neg =>
    have HN : Hid (numD neg (L s) e = none) := by unfold Hid numD; rw [if_neg (by intro hh; omega)]
    have hb1 : ∀ x, Below w.heap.size w (w.alloc x) := fun x => (Below.refl _ _).alloc (Nat.le_refl _) _
    have HB := Lib.hid hb1
    clear hb1
    go_enter Tryz.func27, Tryz.ntmps27
    go_wp2_with fail
    go_ret2
    exact ⟨_, _, rfl, fun m hm => absurd (HN.out.symm.trans hm) (by simp), fun _ => .inl (by decide), HB.out _⟩
  have h0' : ¬ (e < 0) := by omega
  have hls : ((L s).length : Int) = s.size := by rw [L_len]
  by_cases h19 : (s.size : Int) + e ≤ 19
  case neg =>
    have HN : Hid (numD neg (L s) e = none) := by unfold Hid numD; rw [if_neg (by intro hh; omega)]
    have hb1 : ∀ x, Below w.heap.size w (w.alloc x) := fun x => (Below.refl _ _).alloc (Nat.le_refl _) _
    have HB := Lib.hid hb1
    have h19' : (19 : Int) < (s.size : Int) + e := by omega
    clear hb1 hls h19
    go_enter Tryz.func27, Tryz.ntmps27
    go_wp2_with fail
    go_ret2
    exact ⟨_, _, rfl, fun m hm => absurd (HN.out.symm.trans hm) (by simp), fun _ => .inl (by decide), HB.out _⟩
  obtain ⟨n, rfl⟩ := Int.eq_ofNat_of_zero_le h0
  have HTI := Lib.hid (ti2_of HD.out h0 (by rw [hls]; exact h19) rfl)
  generalize numD neg (L s) n = o at *
  clear hls HD
  go_enter Tryz.func27, Tryz.ntmps27
  go_wp2_with fail
  generalize hW : World.alloc w _ = w1
  obtain ⟨ha, -, hz, hb⟩ := alloc_of hW
  have HB1 := Lib.hid hb
  have HX : Hid (∀ w', Below w.heap.size w w' → (Below w1.heap.size w1 w') → w'.cell? ⟨w.heap.size, 0, none⟩ = some (.bool neg)) := fun w' _ h => (h.cell (p := ⟨w.heap.size, 0, none⟩) (by show w.heap.size < w1.heap.size; omega)).trans (cell_of_row _ _ _ _ _ _ ha)
  have HSX : Hid (∀ w', Below w1.heap.size w1 w' → w'.cell? ⟨w.heap.size, 1, none⟩ = some (.string s) ∧ w'.cell? ⟨w.heap.size, 2, none⟩ = some (.int .i64 n)) := fun w' h => ⟨(h.cell (p := ⟨w.heap.size, 1, none⟩) (by show w.heap.size < w1.heap.size; omega)).trans (cell_of_row _ _ _ _ _ _ ha), (h.cell (p := ⟨w.heap.size, 2, none⟩) (by show w.heap.size < w1.heap.size; omega)).trans (cell_of_row _ _ _ _ _ _ ha)⟩
  have hcc : (9223372036854775807 < s.size + n) = False := eq_false (by omega)
  clear hW ha hb hz
  refine wp_region_held_drew (S := fun w' => w'.cell? ⟨w.heap.size, 1, none⟩ = some (.string s) ∧ w'.cell? ⟨w.heap.size, 2, none⟩ = some (.int .i64 n)) (by kernel_rfl) (HSX.out _ (drewB w1)) (fun hHeld => ?_)
  refine take_at 0 (some 17) rfl rfl (by kernel_rfl) (by kernel_rfl) (by kernel_rfl) (fun _ _ _ h => h) (Or.inl ⟨by rfl, fun w hSw => by (obtain ⟨q1, q2⟩ := hSw; go_simp; with_reducible rfl)⟩) hHeld ?_
  simp only [Act.put, List.setIfInBounds_toArray, List.set_cons_zero, List.set_cons_succ]
  refine take_at 1 (some 18) rfl rfl (by kernel_rfl) (by kernel_rfl) (by kernel_rfl) (fun _ _ _ h => h) (Or.inl ⟨by rfl, fun w hSw => by (obtain ⟨q1, q2⟩ := hSw; go_simp; with_reducible rfl)⟩) hHeld ?_
  simp only [Act.put, List.setIfInBounds_toArray, List.set_cons_zero, List.set_cons_succ]
  refine take_at 2 (some 19) rfl rfl (by kernel_rfl) (by kernel_rfl) (by kernel_rfl) (fun _ _ _ h => h) (Or.inl ⟨by rfl, fun w hSw => by (obtain ⟨q1, q2⟩ := hSw; go_simp; with_reducible rfl)⟩) hHeld ?_
  simp only [Act.put, List.setIfInBounds_toArray, List.set_cons_zero, List.set_cons_succ]
  refine take_at 3 (some 20) rfl rfl (by kernel_rfl) (by kernel_rfl) (by kernel_rfl) (fun _ _ _ h => h) (Or.inl ⟨by rfl, fun w hSw => by (obtain ⟨q1, q2⟩ := hSw; go_simp; with_reducible rfl)⟩) hHeld ?_
  simp only [Act.put, List.setIfInBounds_toArray, List.set_cons_zero, List.set_cons_succ]
  refine wpAnyH_ready (rs := [4]) (by kernel_rfl) (by simp) ?_
  refine AllReadyH.cons rfl (fun K hK => ?_) AllReadyH.nil
  go_simp
  refine (Noughts_any n _ (by omega)).mono ?_
  rintro e w2 ⟨rfl, hb⟩
  have HB2 := Lib.hid (HB1.out.trans ((drewB w1).mono HB1.out.size) |>.trans (hb.mono HB1.out.size))
  refine hK.out _ _ (HSX.out _ ((drewB w1).trans hb)) (fun hHeld => ?_)
  have HB3 := Lib.hid ((drewB w1).trans hb)
  clear hK K hb
  refine take_at 5 (some 22) rfl rfl (by kernel_rfl) (by kernel_rfl) (by kernel_rfl) (fun _ _ _ h => h) (Or.inl ⟨by rfl, fun w hSw => by (obtain ⟨q1, q2⟩ := hSw; go_simp; with_reducible rfl)⟩) hHeld ?_
  simp only [Act.put, List.setIfInBounds_toArray, List.set_cons_zero, List.set_cons_succ]
  refine wpAnyH_ready (rs := [6]) (by kernel_rfl) (by simp) ?_
  refine AllReadyH.cons rfl (fun K hK => ?_) AllReadyH.nil
  go_simp
  refine hK.out _ _ hHeld (fun hHeld => ?_)
  clear hK K
  have x0 := HX.out _ HB2.out HB3.out
  clear hHeld
  refine wpAnyH_done (by kernel_rfl) ?_ _
  clear HSX HX HB3 hcc
  have HU := Lib.hid (L_plus s n)
  generalize hu : s ++ (⟨Array.replicate n (48 : UInt8)⟩ : ByteArray) = u at *
  clear hu
  have hus : (L u).length = s.size + n := by rw [HU.out, List.length_append, List.length_replicate, L_len]
  rw [L_len] at hus
  obtain ⟨t1, t2, t3, t4⟩ := HTI.out
  simp only [Int.toNat_natCast] at t1 t2 t3 t4
  rw [← HU.out] at t1 t2 t3 t4
  rw [L_len] at t4
  have HT1 := Lib.hid (ToInt1_any u w2 (by omega) t1)
  have HT2 := Lib.hid t2
  have HT3 := Lib.hid t3
  have HT4 := Lib.hid t4
  clear t1 t2 t3 t4 HTI HU hus
  cases neg with
  | true =>
    obtain ⟨ho, hv⟩ := HT3.out rfl
    subst ho
    have HV := Lib.hid hv
    clear HT2 HT3 hv HT4
    cases hq : (u.toList == [57, 50, 50, 51, 51, 55, 50, 48, 51, 54, 56, 53, 52, 55, 55, 53, 56, 48, 56]) with
    | true =>
      clear HT1 HV
      go_wp2_with fail
      go_ret2
      exact ⟨_, _, rfl, (fun m hm => by cases hm), fun _ => .inr (.inl (by decide)), HB2.out⟩
    | false =>
      go_wp2_with fail
      refine HT1.out.mono ?_
      rintro e w3 ⟨rfl | ⟨rfl, -⟩, rfl⟩
      · generalize wrap64 (valD 0 (L u) : Nat) = n at *
        go_wp2_with fail
        go_ret2
        exact ⟨_, _, rfl, (fun m hm => by cases hm), fun _ => .inr HV.out, HB2.out⟩
      · go_wp2_with fail
        go_ret2
        exact ⟨_, _, rfl, (fun m hm => by cases hm), fun _ => .inl (by decide), HB2.out⟩
  | false =>
    have hv := HT2.out rfl
    have HV := Lib.hid hv
    clear HT2 HT3 hv
    go_wp2_with fail
    refine HT1.out.mono ?_
    rintro e w3 ⟨rfl | ⟨rfl, h19u⟩, rfl⟩
    · generalize wrap64 (valD 0 (L u) : Nat) = n at *
      go_wp2_with fail
      go_ret2
      exact ⟨_, _, rfl, (fun m hm => ⟨HV.out.1 m hm, rfl⟩), fun h => .inr (HV.out.2 h), HB2.out⟩
    · have ho := HT4.out h19u
      subst ho
      clear HV HT4 h19u
      go_wp2_with fail
      go_ret2
      exact ⟨_, _, rfl, (fun m hm => by cases hm), fun _ => .inl (by decide), HB2.out⟩
/-- What patch.number answers. -/
def numI (k : Int) (o : Option Nat) : Int := if k = 2 then (match o with | some m => (m : Int) | none => -1) else -1
theorem numI_no {k : Int} {o : Option Nat} (h : k ≠ 2 ∨ o = none) : numI k o = -1 := by
  unfold numI
  rcases h with h | h
  · rw [if_neg h]
  · subst h; split <;> rfl
theorem number_any (c : VC) (w : World) (hd : decB c.h.neg (L c.h.ds) c.h.exp = true) (hs : c.h.ds.size ≤ 120) (he1 : c.h.exp ≤ 400) (hm : -400 ≤ c.h.exp) (hone : ∀ u ∈ c.cells, u.oneCell' = true) :
    Calls Tryz.prog 23 #[aggV c] w fun e w' => e = .returned (.int .i64 (numI c.h.kind (numD c.h.neg (L c.h.ds) c.h.exp))) ∧ Below w.heap.size w w' := by
  obtain ⟨⟨k, a1, neg, s, e, a5, a6, a7, a8, a9, a10⟩, bv, lv, fv⟩ := c
  dsimp only at hd hs he1 hm ⊢
  have HD := Lib.hid hd
  have HB := Lib.hid (fun (x y : Obj) => ((Below.refl w.heap.size w).alloc (Nat.le_refl _) x).alloc (by simp : w.heap.size ≤ (w.alloc x).heap.size) y)
  have hls : ((L s).length : Int) = s.size := by rw [L_len]
  obtain ⟨r, hr⟩ : ∃ r, r = numI k (numD neg (L s) e) := ⟨_, rfl⟩
  rw [← hr]
  clear hd hone
  by_cases hk : k = 2
  case neg =>
    have HF : Hid (r = -1) := hr.trans (numI_no (.inl hk))
    have q1 : (k != 2) = true := by rw [bne_iff_ne]; exact hk
    clear hr hk HD hls
    go_enter Tryz.func23, Tryz.ntmps23
    go_wp2_with fail
    go_ret
    exact ⟨by rw [HF.out]; rfl, HB.out _ _⟩
  subst hk
  cases neg with
  | true =>
    have HF : Hid (r = -1) := hr.trans (numI_no (.inr (by unfold numD; rw [if_neg (by intro hh; cases hh.1)])))
    clear hr HD hls
    go_enter Tryz.func23, Tryz.ntmps23
    go_wp2_with fail
    go_ret
    exact ⟨by rw [HF.out]; rfl, HB.out _ _⟩
  | false =>
  by_cases h0 : 0 ≤ e
  case neg =>
    have HF : Hid (r = -1) := hr.trans (numI_no (.inr (by unfold numD; rw [if_neg (by intro hh; omega)])))
    have h0' : e < 0 := by omega
    clear hr HD hls h0
    go_enter Tryz.func23, Tryz.ntmps23
    go_wp2_with fail
    go_ret
    exact ⟨by rw [HF.out]; rfl, HB.out _ _⟩
  by_cases h6 : (s.size : Int) + e ≤ 6
  case neg =>
    have HF : Hid (r = -1) := hr.trans (numI_no (.inr (by unfold numD; rw [if_neg (by intro hh; omega)])))
    have h6' : (6 : Int) < (s.size : Int) + e := by omega
    clear hr HD hls h6
    go_enter Tryz.func23, Tryz.ntmps23
    go_wp2_with fail
    go_ret
    exact ⟨by rw [HF.out]; rfl, HB.out _ _⟩
  obtain ⟨n, rfl⟩ := Int.eq_ofNat_of_zero_le h0
  obtain ⟨z, hz⟩ : ∃ z, z = L s ++ List.replicate n 48 := ⟨_, rfl⟩
  have hzl : z.length = s.size + n := by rw [hz, List.length_append, List.length_replicate, L_len]
  have hall : z.all dig = true := by
    rcases dec_big HD.out h0 with ⟨h1, h2, h3⟩ | ⟨h1, hn, -⟩
    · have : n = 0 := by omega
      subst this
      rw [hz, h1]
      rfl
    · have := nat_app (k := n) hn h1 (by omega)
      rw [← hz] at this
      unfold natB at this
      rw [Bool.and_eq_true, Bool.and_eq_true] at this
      exact this.2.1
  have hval : valD 0 z = valD 0 (L s) * 10 ^ n := by rw [hz, valD_app, valD_zeros]
  have HF : Hid (r = if valD 0 z ≤ 65536 then (valD 0 z : Int) else -1) := by
    unfold Hid
    rw [hr, hval]
    unfold numI numD
    rw [if_pos rfl, Int.toNat_natCast]
    by_cases hv : valD 0 (L s) * 10 ^ n ≤ 65536
    · rw [if_pos hv, if_pos ⟨rfl, h0, by rw [hls]; exact h6, hv⟩]
    · rw [if_neg hv, if_neg (by intro hh; exact hv hh.2.2.2)]
  have HBD : Hid (∀ k, valD 0 (z.take k) < 1000000) := by
    intro k
    have h2 := valD_lt (z.take k) 0 (fun b hb => List.all_eq_true.1 hall b (List.mem_of_mem_take hb))
    have h3 : (10 : Nat) ^ (z.take k).length ≤ 10 ^ 6 := Nat.pow_le_pow_right (by decide) (by rw [List.length_take]; omega)
    have h4 : (10 : Nat) ^ 6 = 1000000 := by decide
    omega
  have HST : Hid (∀ k (h : k < z.length), valD 0 (z.take (k + 1)) = 10 * valD 0 (z.take k) + ((if h : k < s.size then s[k] else (48 : UInt8)).toNat - 48) ∧ 48 ≤ (if h : k < s.size then s[k] else (48 : UInt8)).toNat ∧ (if h : k < s.size then s[k] else (48 : UInt8)).toNat ≤ 57) := by
    intro k h
    have hzk : z[k] = if h : k < s.size then s[k] else (48 : UInt8) := by
      subst hz
      by_cases hks : k < s.size
      · rw [dif_pos hks, List.getElem_append_left (by rw [L_len]; exact hks), L_get]
      · rw [dif_neg hks, List.getElem_append_right (by rw [L_len]; omega), List.getElem_replicate]
    rw [← hzk]
    have hd : dig z[k] = true := List.all_eq_true.1 hall _ (List.getElem_mem _)
    refine ⟨by rw [List.take_succ_eq_append_getElem h, valD_snoc], ?_⟩
    unfold dig at hd
    simp at hd
    omega
  have HTZ : Hid (z.take 0 = []) := List.take_zero
  have HTN : Hid (z.take z.length = z) := List.take_length
  clear hr HD hls hz hall hval h0
  go_enter Tryz.func23, Tryz.ntmps23
  go_wp2_with fail
  go_loop [4, 35] (fun v i => ∃ k : Nat, i = .int .i64 k ∧ k ≤ z.length ∧ v = .int .i64 (valD 0 (z.take k) : Nat)) (fun _ i => z.length - (intOf i).toNat)
  case atStart => exact ⟨0, rfl, Nat.zero_le _, congrArg (Value.int .i64) (by rw [HTZ.out]; rfl)⟩
  case round =>
    obtain ⟨k, rfl, hk, rfl⟩ := hrel
    by_cases hlt : k < z.length
    case neg =>
      obtain rfl : k = z.length := by omega
      have hb := HBD.out z.length
      rw [HTN.out] at hb
      rw [HTN.out]
      clear HBD HST HTZ HTN
      generalize valD 0 z = v at *
      have hge : ¬ ((z.length : Int) < s.size + n) := by omega
      by_cases hv : v ≤ 65536
      case pos =>
        have HF2 : Hid (r = v) := by unfold Hid; rw [HF.out, if_pos hv]
        have hv1 : ¬ ((65536 : Int) < v) := by omega
        clear HF hv
        go_wp2_with fail
        go_ret
        exact ⟨by rw [HF2.out]; rfl, HB.out _ _⟩
      case neg =>
        have HF2 : Hid (r = -1) := by unfold Hid; rw [HF.out, if_neg hv]
        have hv1 : (65536 : Int) < v := by omega
        clear HF hv
        go_wp2_with fail
        go_ret
        exact ⟨by rw [HF2.out]; rfl, HB.out _ _⟩
    obtain ⟨hs1, hs2, hs3⟩ := HST.out k hlt
    have hb := HBD.out k
    have HS1 := Lib.hid hs1
    have hlt' : (k : Int) < s.size + n := by omega
    clear HBD HST HTZ HTN hs1
    generalize valD 0 (z.take k) = v at *
    have hv6 : (v : Int) < 1000000 := by omega
    by_cases hks : k < s.size
    case pos =>
      rw [dif_pos hks] at hs2 hs3
      rw [dif_pos hks] at HS1
      have hi1 : (48 : Int) ≤ (s[k].toNat : Int) := by omega
      have hi2 : (s[k].toNat : Int) ≤ 57 := by omega
      clear hs2 hs3
      go_wp2_with fail
      exact ⟨⟨k + 1, by go_num, by omega, congrArg (Value.int .i64) (by have := HS1.out; omega)⟩, by simp [intOf]; omega⟩
    case neg =>
      rw [dif_neg hks] at HS1
      have hi1 : ¬ ((k : Int) < s.size) := by omega
      clear hs2 hs3 hks
      go_wp2_with fail
      exact ⟨⟨k + 1, by go_num, by omega, congrArg (Value.int .i64) (by have h := HS1.out; have h48 : ((48 : UInt8).toNat) = 48 := rfl; omega)⟩, by simp [intOf]; omega⟩
end Go.Proofs.YtemiihkmpojpgaaGreatDoor

namespace Go.Proofs.YtemiihkmpojpgaaGreatDoor
open Go.RowKit
set_option maxHeartbeats 8000000
set_option maxRecDepth 100000

/-! What a change that is valid says. -/
theorem one_ok {x : Ch} (h : oneC x = 0) : validP x.p = true ∧ 0 ≤ x.pos ∧ x.pos ≤ 65536 ∧ (x.op = 1 ∨ x.op = 2 ∨ x.op = 3 ∨ x.op = 4) := by
  unfold oneC at h
  by_cases h1 : arg1 x = false
  · rw [if_pos h1] at h; exact absurd h (by decide)
  by_cases h2 : arg2 x = false
  · rw [if_neg h1, if_pos h2] at h; exact absurd h (by decide)
  rw [Bool.not_eq_false] at h1 h2
  unfold arg1 at h1
  unfold arg2 at h2
  simp only [Bool.not_eq_true', Bool.or_eq_false_iff, Bool.and_eq_false_iff, Bool.not_eq_false', decide_eq_false_iff_not] at h1 h2
  obtain ⟨ho, hp, _⟩ := h1
  refine ⟨hp, by omega, by omega, ?_⟩
  unfold oldB newB at ho
  rw [decide_eq_true_iff, decide_eq_true_iff] at ho
  omega
theorem first_all {xs : List Ch} (h : (firstL xs).2 = 0) : ∀ i (hi : i < xs.length), oneC xs[i] = 0 := by
  unfold firstL at h
  split at h
  · cases h
  · have key : ∀ (l : List Ch) (k : Nat), (firstC l k).2 = 0 → ∀ x ∈ l, oneC x = 0 := by
      intro l
      induction l with
      | nil => intro _ _ x hx; cases hx
      | cons y t ih =>
        intro k hk x hx
        rw [firstC] at hk
        split at hk
        · exact absurd hk (by assumption)
        · rename_i hy
          rcases List.mem_cons.1 hx with rfl | hx
          · simpa using hy
          · exact ih _ hk x hx
    exact fun i hi => key xs 0 h _ (List.getElem_mem hi)
theorem nod_wr (x : Ch) : nodF (wr5 x) ≤ nodV x.o + nodV x.n + 3 := by
  have a : ∀ l m : List (ByteArray × V), nodF (l ++ m) = nodF l + nodF m := by
    intro l m
    induction l with
    | nil => rw [List.nil_append, nodF]; omega
    | cons y t ih => rw [List.cons_append, nodF, nodF, ih]; omega
  have b : nodF ([] : List (ByteArray × V)) = 0 := by rw [nodF]
  have c : ∀ k v, nodF [(k, v)] = nodV v := fun k v => by rw [nodF, nodF]; simp
  have d : ∀ s, nodV (vT s) = 1 := fun s => by rw [vT, nodV_mk, nodL, nodF]
  have d2 : ∀ s, nodV (vI s) = 1 := fun s => by rw [vI, nodV_mk, nodL, nodF]
  have e : nodF (wr2 x) = 2 := by
    unfold wr2
    rw [nodF, c, d, d]
  unfold wr5 wr4 wr3
  simp only [a, e]
  have f1 : nodF (if keyB x = true then [(kAt, vI x.pos)] else []) ≤ 1 := by split <;> simp [b, c, d2]
  have f2 : nodF (if oldB x.op = true then [(kOld, x.o)] else []) ≤ nodV x.o := by split <;> simp [b, c]
  have f3 : nodF (if newB x.op = true then [(kNew, x.n)] else []) ≤ nodV x.n := by split <;> simp [b, c]
  omega
theorem nod_wrL (xs : List Ch) (h : fewB xs = true) : nodV (wrL xs) ≤ 1000000 := by
  obtain ⟨hn, hf⟩ := fewB_is h
  have key : ∀ l : List Ch, (∀ x ∈ l, nodV x.o ≤ 150 ∧ nodV x.n ≤ 150) → nodL (l.map wrV) ≤ 304 * l.length := by
    intro l
    induction l with
    | nil => intro _; rw [List.map_nil, nodL]; exact Nat.zero_le _
    | cons y t ih =>
      intro hl
      have h1 := ih (fun x hx => hl x (List.mem_cons_of_mem _ hx))
      have h2 := hl y List.mem_cons_self
      have h3 := nod_wr y
      rw [List.map_cons, nodL, List.length_cons]
      have h4 : nodV (wrV y) = 1 + nodF (wr5 y) := by rw [wrV, nodV_mk, nodL]
      omega
  have h1 := key xs (fun x hx => by
    obtain ⟨i, hi, rfl⟩ := List.getElem_of_mem hx
    obtain ⟨a, _, b, _⟩ := fewOne_is (hf i hi)
    exact ⟨a, b⟩)
  rw [wrL, nodV_mk, nodF]
  omega
theorem wr5_len (x : Ch) : (wr5 x).length ≤ 5 ∧ (wr4 x).length ≤ 4 ∧ (wr3 x).length ≤ 3 := by
  have f1 : (if keyB x = true then [(kAt, vI x.pos)] else []).length ≤ 1 := by split <;> simp
  have f2 : (if oldB x.op = true then [(kOld, x.o)] else []).length ≤ 1 := by split <;> simp
  have f3 : (if newB x.op = true then [(kNew, x.n)] else []).length ≤ 1 := by split <;> simp
  have e : (wr2 x).length = 2 := rfl
  unfold wr5 wr4 wr3
  simp only [List.length_append, e]
  omega
/-! The map under way. -/
def St3 (wm w : World) (g B : Nat) (fl : List (ByteArray × V)) : Prop := ∃ F, MapAt w g B F fl ∧ Below g wm w
theorem St3.below {wm w w' : World} {g B : Nat} {fl : List (ByteArray × V)} (h : St3 wm w g B fl) (hb : Below w.heap.size w w') : St3 wm w' g B fl := by
  obtain ⟨F, h1, h2⟩ := h
  exact ⟨F, h1.below hb, h2.trans (hb.mono (Nat.le_of_lt h1.lt))⟩
theorem St3.lt {wm w : World} {g B : Nat} {fl : List (ByteArray × V)} (h : St3 wm w g B fl) : g < w.heap.size := by
  obtain ⟨F, h1, h2⟩ := h
  exact h1.lt
theorem St3.b {wm w : World} {g B : Nat} {fl : List (ByteArray × V)} (h : St3 wm w g B fl) : Below g wm w := by
  obtain ⟨F, h1, h2⟩ := h
  exact h2
/-! The list under way. -/
def ListAt (w : World) (g B : Nat) (F : Value) (l : List V) : Prop :=
  w.heap[g]? = some (.cells (VC.cells ⟨hdK 6, .slice none 0 0, F, .slice none 0 0⟩).toArray 30 (0, 0)) ∧ OwnN 30 13 VC.cells RdI (TB B g) w (g + 1) F l
theorem ListAt.lt {w : World} {g B : Nat} {F : Value} {l : List V} (h : ListAt w g B F l) : g < w.heap.size := by
  rcases Nat.lt_or_ge g w.heap.size with h' | h'
  · exact h'
  · have := h.1
    rw [Array.getElem?_eq_none h'] at this
    cases this
theorem ListAt.below {w w' : World} {g B : Nat} {F : Value} {l : List V} (h : ListAt w g B F l) (hb : Below w.heap.size w w') : ListAt w' g B F l :=
  ⟨(hb.block g h.lt).trans h.1, h.2.below stbV hb⟩
theorem ListAt.rdS {w : World} {g B : Nat} {F : Value} {l : List V} (h : ListAt w g B F l) (hl : l.length ≤ 140737488351232) {S : Nat → Prop} (hT : ∀ b, TB B g b → S b) : RdI w S ⟨hdK 6, .slice none 0 0, F, .slice none 0 0⟩ (.mk (hdK 6) l []) := by
  have nb : ∀ S : Nat → Prop, BlkIn S (.slice none 0 0) := fun S g o p n cap hv _ => by cases hv
  obtain ⟨lc, h1, h2, h3⟩ := h.2.sl stbV cells_len ⟨hdK 0, .slice none 0 0, .slice none 0 0, .slice none 0 0⟩ hl (S := S) hT (fun b hb _ => hT b (.inr hb))
  exact RdI.of_rows (okK 6 ⟨by decide, by decide⟩) Sl.nil (nb _) ⟨lc, h1, h2, h3⟩ ⟨fun _ => (⟨#[]⟩, ⟨hdK 0, .slice none 0 0, .slice none 0 0, .slice none 0 0⟩), Sl.nil, fun i hi => absurd hi (Nat.not_lt_zero _), nb _⟩
theorem ListAt.rd {w : World} {g B : Nat} {F : Value} {l : List V} (h : ListAt w g B F l) (hl : l.length ≤ 140737488351232) : RdV w ⟨hdK 6, .slice none 0 0, F, .slice none 0 0⟩ (.mk (hdK 6) l []) := h.rdS hl (fun _ _ => trivial)
/-- What Write hands back. -/
def WrPost (w : World) (xs : List Ch) (e : Ending) (w' : World) : Prop := ∃ c, e = .returned (.tuple #[aggV c, .int .i64 ((wrR xs).2 : Nat)]) ∧ RdV w' c (wrR xs).1 ∧ Below w.heap.size w w'
end Go.Proofs.YtemiihkmpojpgaaGreatDoor

namespace Go.Proofs.YtemiihkmpojpgaaGreatDoor
open Go.RowKit
set_option maxHeartbeats 4000000
set_option maxRecDepth 100000

theorem results_two {P : Program} {fn : Func} {p q : Tmp} {ty : TypeId} (h : fn.results = #[.cell p ty, .tmp q]) (tmps : Array Value) (w : World) (g : Nat) (t : TypeId) (cs : Array Value) (fr : Nat × Nat) (d : TypeDesc) (v : Value)
    (hp : tmps.getD p undef = .pointer (some ⟨g, 0, none⟩)) (hq : tmps.getD q undef = v) (hg : w.heap[g]? = some (.cells cs t fr))
    (hu : P.underlying ty = some d) (hd : (match d with | .struct _ | .array _ _ => true | _ => false) = true) (hi : (P.info? ty).map (·.size) = some cs.size) :
    (results fn tmps).run P w = .ok (.tuple #[.agg cs, v]) w := by
  have hp' : tmps[p]?.getD undef = .pointer (some ⟨g, 0, none⟩) := by simpa using hp
  have hq' : tmps[q]?.getD undef = v := by simpa using hq
  simp [results, h, hp', hq', asAddr, run_loadVar_row w g t ty cs fr d hg hu hd hi]
/-- The operator that a text names, looked for among the first k. -/
def opS (t : ByteArray) : Nat → Int
  | 0 => 0
  | k + 1 => if t = nameS ((k : Int) + 1) then (k : Int) + 1 else opS t k
theorem opS_bd (t : ByteArray) : ∀ k, 0 ≤ opS t k ∧ opS t k ≤ k
  | 0 => by unfold opS; omega
  | k + 1 => by
    have := opS_bd t k
    unfold opS
    split <;> omega
/-- The operator of the map's fields. -/
def opF (f : List (ByteArray × V)) : Int := match fieldF kOp f with
  | some v => if (hdV v).kind = 4 then opS (hdV v).text 4 else 0
  | none => 0
def pathF (f : List (ByteArray × V)) : Option ByteArray := match fieldF kPath f with
  | some v => if (hdV v).kind = 4 then some (hdV v).text else none
  | none => none
/-- The number that a value is. -/
def numV (v : V) : Int := numI (hdV v).kind (numD (hdV v).neg (L (hdV v).ds) (hdV v).exp)
def b1 (b : Bool) : Nat := if b then 1 else 0
/-- Do the further fields fit? -/
def fitF (f : List (ByteArray × V)) (op : Int) (p : List St) : Bool :=
  decide ((fieldF kAt f).isSome = (movB op && lastK p)) && (decide ((fieldF kOld f).isSome = oldB op) && (decide ((fieldF kNew f).isSome = newB op) &&
    (decide (f.length = 2 + b1 (fieldF kAt f).isSome + b1 (fieldF kOld f).isSome + b1 (fieldF kNew f).isSome) && !((movB op && lastK p) && decide (numV ((fieldF kAt f).getD v0) < 0)))))
/-- The change that a value is, and the error. -/
def changeOf (f : List (ByteArray × V)) (op : Int) (p : List St) : Ch := ⟨op, p, if (movB op && lastK p) = true then numV ((fieldF kAt f).getD v0) else 0, (fieldF kOld f).getD v0, (fieldF kNew f).getD v0⟩
def ch0 : Ch := ⟨0, [], 0, v0, v0⟩
def readC (v : V) : Ch × Nat :=
  if (hdV v).kind ≠ 7 then (ch0, 6)
  else if opF (flV v) = 0 then (ch0, 3)
  else match pathF (flV v) with
    | none => (ch0, 3)
    | some t => if (parseL (L t)).2 ≠ 0 then (ch0, (parseL (L t)).2)
      else if fitF (flV v) (opF (flV v)) (parseL (L t)).1 = false then (ch0, 3)
      else if movB (opF (flV v)) = true ∧ (parseL (L t)).1 = [] then (ch0, 1)
      else (changeOf (flV v) (opF (flV v)) (parseL (L t)).1, 0)
/-! The five names are not alike. -/
theorem five (f : List (ByteArray × V)) : b1 (fieldF kOp f).isSome + b1 (fieldF kPath f).isSome + b1 (fieldF kAt f).isSome + b1 (fieldF kOld f).isSome + b1 (fieldF kNew f).isSome ≤ f.length := by
  induction f with
  | nil => simp [fieldF, b1]
  | cons y t ih =>
    obtain ⟨k, x⟩ := y
    rw [List.length_cons]
    simp only [fieldF]
    have n12 : kOp ≠ kPath := by decide
    have n13 : kOp ≠ kAt := by decide
    have n14 : kOp ≠ kOld := by decide
    have n15 : kOp ≠ kNew := by decide
    have n23 : kPath ≠ kAt := by decide
    have n24 : kPath ≠ kOld := by decide
    have n25 : kPath ≠ kNew := by decide
    have n34 : kAt ≠ kOld := by decide
    have n35 : kAt ≠ kNew := by decide
    have n45 : kOld ≠ kNew := by decide
    have hb : ∀ b, b1 b ≤ 1 := fun b => by cases b <;> decide
    have u1 := hb (fieldF kOp t).isSome
    have u2 := hb (fieldF kPath t).isSome
    have u3 := hb (fieldF kAt t).isSome
    have u4 := hb (fieldF kOld t).isSome
    have u5 := hb (fieldF kNew t).isSome
    have hs : b1 (some x : Option V).isSome = 1 := rfl
    by_cases h1 : k = kOp
    · subst h1
      rw [if_pos rfl, if_neg n12, if_neg n13, if_neg n14, if_neg n15, hs]; omega
    by_cases h2 : k = kPath
    · subst h2
      rw [if_pos rfl, if_neg n12.symm, if_neg n23, if_neg n24, if_neg n25, hs]; omega
    by_cases h3 : k = kAt
    · subst h3
      rw [if_pos rfl, if_neg n13.symm, if_neg n23.symm, if_neg n34, if_neg n35, hs]; omega
    by_cases h4 : k = kOld
    · subst h4
      rw [if_pos rfl, if_neg n14.symm, if_neg n24.symm, if_neg n34.symm, if_neg n45, hs]; omega
    by_cases h5 : k = kNew
    · subst h5
      rw [if_pos rfl, if_neg n15.symm, if_neg n25.symm, if_neg n35.symm, if_neg n45.symm, hs]; omega
    rw [if_neg h1, if_neg h2, if_neg h3, if_neg h4, if_neg h5]
    omega
/-- Are all the fields of a written change there? -/
def hasAll (f : List (ByteArray × V)) (w : List (ByteArray × V)) : Bool := w.all fun y => (fieldF y.1 f).isSome
theorem wr5_has (f : List (ByteArray × V)) (x : Ch) : hasAll f (wr5 x) = ((fieldF kOp f).isSome && ((fieldF kPath f).isSome && ((!keyB x || (fieldF kAt f).isSome) && ((!oldB x.op || (fieldF kOld f).isSome) && (!newB x.op || (fieldF kNew f).isSome))))) := by
  unfold hasAll wr5 wr4 wr3 wr2
  cases keyB x <;> cases oldB x.op <;> cases newB x.op <;> simp [Bool.and_assoc]
theorem wr5_num (x : Ch) : (wr5 x).length = 2 + b1 (keyB x) + b1 (oldB x.op) + b1 (newB x.op) := by
  unfold wr5 wr4 wr3 wr2
  cases keyB x <;> cases oldB x.op <;> cases newB x.op <;> rfl
/-- The reference's test is the program's. -/
theorem fit_same (f : List (ByteArray × V)) (op : Int) (p : List St) (x : Ch) (hop : x.op = op) (hp : x.p = p) (h1 : (fieldF kOp f).isSome = true) (h2 : (fieldF kPath f).isSome = true) (hat : (fieldF kAt f).isSome = true → 0 ≤ numV ((fieldF kAt f).getD v0)) :
    fitF f op p = (decide ((wr5 x).length = f.length) && hasAll f (wr5 x)) := by
  subst hop hp
  have h5 := five f
  rw [wr5_num, wr5_has, h1, h2]
  rw [h1, h2] at h5
  unfold fitF keyB
  have hb : b1 true = 1 := rfl
  have hb0 : b1 false = 0 := rfl
  rw [hb] at h5
  cases ha : (fieldF kAt f).isSome <;> cases ho : (fieldF kOld f).isSome <;> cases hn : (fieldF kNew f).isSome <;> cases (movB x.op && lastK x.p) <;> cases oldB x.op <;> cases newB x.op <;>
    simp only [ha, ho, hn, hb, hb0] at h5 hat ⊢ <;> simp <;> (try omega) <;> (try (have h9 := hat trivial; rw [decide_eq_false (by omega : ¬ numV ((fieldF kAt f).getD v0) < 0)]; simp [eq_comm]))
/-! patch.read$1. -/
/-- What take hands back: the field, and whether it is there as it should; one less is left. -/
def TkPost (w : World) (gl : Nat) (n : Int) (counts : Bool) (o : Option V) (e : Ending) (w' : World) : Prop :=
  ∃ c, e = .returned (.tuple #[aggV c, .bool (o.isSome == counts)]) ∧ RdI w' (fun b => w.heap.size ≤ b) c (o.getD v0) ∧ w.grownBy w' (some gl) ∧ w'.heap[gl]? = some (.cells #[.int .i64 (n - b1 o.isSome)] 3 (0, 0))
theorem grown_below {w w' w2 : World} {r : Option Nat} (h : w.grownBy w' r) (hb : Below w'.heap.size w' w2) : w.grownBy w2 r :=
  ⟨hb.os.trans h.os, hb.tape.trans h.tape, hb.output.trans h.output, Nat.le_trans h.size hb.size, fun b h1 h2 => (hb.block b (Nat.lt_of_lt_of_le h1 h.size)).trans (h.block b h1 h2)⟩
theorem take_any (key : ByteArray) (counts : Bool) (v : V) (c : VC) (w : World) (g1 gl : Nat) (n : Int) (h0 : -100 ≤ n) (h9 : n ≤ 1000000000) (hn : nodV v ≤ 1000000) (hd : depV v ≤ 65536) (hx : w.heap[g1]? = some (.cells (VC.cells c).toArray 30 (0, 0))) (hl : w.heap[gl]? = some (.cells #[.int .i64 n] 3 (0, 0))) (hk : c.h.kind = 7) (hv : RdV w c v) :
    Calls Tryz.prog 19 #[.string key, .bool counts, .pointer (some ⟨g1, 0, none⟩), .pointer (some ⟨gl, 0, none⟩)] w (TkPost w gl n counts (fieldF key (flV v))) := by
  have hgl : gl < w.heap.size := (Array.getElem?_eq_some_iff.1 hl).1
  have hg1 : g1 < w.heap.size := (Array.getElem?_eq_some_iff.1 hx).1
  have HF := Lib.hid (fun w' (hb : Below w.heap.size w w') => VField_any key v c w' hn hd (hv.stays hb) hk)
  have HX := Lib.hid hx
  have HL := Lib.hid hl
  clear hx hl hv
  generalize fieldF key (flV v) = o at *
  go_enter Tryz.func19, Tryz.ntmps19
  go_upto_region 1 with fail
  generalize hW : World.alloc w _ = w1
  obtain ⟨ha1, -, hz1, hb1⟩ := alloc_of hW
  have HR1 := Lib.hid ha1
  have HB1 := Lib.hid hb1
  have HZ1 := Lib.hid hz1
  have HC1 : Hid (∀ j, j < 13 → w1.cell? ⟨g1, 0 + j, none⟩ = (VC.cells c)[j]?) := rowV ((hb1.block _ hg1).trans HX.out)
  clear hW ha1 hz1 hb1
  go_wp2_with (refine wpl_load rfl rfl stVk rfl (cells_len _) HC1.out ?_)
  refine (HF.out _ HB1.out).mono ?_
  rintro e w2 ⟨c2, rfl, hr2, hb2⟩
  have HONE2 := Lib.hid (vc_one hr2.any)
  have HR2 := Lib.hid ((hb2.block _ (by rw [HZ1.out]; omega)).trans HR1.out)
  have HB2 := Lib.hid (HB1.out.trans (hb2.mono HB1.out.size))
  have HRD2 : Hid (RdI w2 (fun b => w.heap.size < b) c2 (o.getD v0)) := hr2.mono fun b hb => by have := HZ1.out; omega
  have HZ2 : Hid (w.heap.size < w2.heap.size) := by unfold Hid; have := hb2.size; have := HZ1.out; omega
  clear hr2 hb2 HC1 HF HB1 HR1
  go_upto_if 16 with (refine wpl_new rfl rfl stVk rfl (cs := VC.cells c2) rfl (cells_len _) HONE2.out rfl rfl rfl ?_; generalize hW1 : World.alloc w2 _ = w3; obtain ⟨ha3, _, hz3, hb3⟩ := alloc_of' hW1; have HA3 := Lib.hid ha3; have HB3 := Lib.hid (HB2.out.trans (hb3.mono HB2.out.size)); have HR3 := Lib.hid ((hb3.block _ HZ2.out).trans HR2.out); have HRD3 := Lib.hid (HRD2.out.stays hb3); have HL3 := Lib.hid ((HB3.out.block _ hgl).trans HL.out); have HZ3 := Lib.hid hz3; clear hW1 ha3 hb3 hz3)
  cases hq : o.isSome with
  | false =>
    have HR4 := HR3
    have HRD4 := HRD3
    have HL4 : Hid (w3.heap[gl]? = some (.cells #[.int .i64 (n - b1 o.isSome)] 3 (0, 0))) := by unfold Hid; rw [hq]; simpa [b1] using HL3.out
    have HG4 : Hid (w.grownBy w3 (some gl)) := ⟨HB3.out.os, HB3.out.tape, HB3.out.output, HB3.out.size, fun b h1 _ => HB3.out.block b h1⟩
    have HA : Hid (∀ j, j < 13 → w3.cell? ⟨w2.heap.size, 0 + j, none⟩ = (VC.cells c2)[j]?) := rowV HA3.out
    have HQ := Lib.hid hq
    clear hq HA3 HR3 HRD3 HL3 HB3
    go_wp2_with (first
      | refine wpl_load rfl rfl stVk rfl (cells_len _) HA.out ?_
      | (refine wpl_store rfl rfl stVk.2 rfl rfl (cs := VC.cells c2) rfl (cells_len _) HONE2.out HR4.out (Nat.le_refl 13) (row := VC.cells c2) (by rw [List.take_zero, List.nil_append, List.drop_of_length_le (by decide), List.append_nil]) ?_; generalize hW3 : World.setRow _ _ _ = w5; obtain ⟨hd5, hk5, hz5, hb5⟩ := setRow_of hW3 HR4.out; clear hW3))
    refine bodyPost_ret (results_two rfl _ _ w.heap.size _ _ _ _ _ rfl rfl hd5 Tryz.underlying30 rfl (by kernel_rfl)) rfl ⟨c2, by rw [HQ.out]; cases counts <;> rfl, ?_, ?_, ?_⟩
    · exact (HRD4.out.kept (fun b hb _ => hk5 b (by omega)) (by omega)).mono (fun b hb => by omega)
    · exact ⟨(hb5 _ (Nat.le_refl _)).os.trans HG4.out.os, (hb5 _ (Nat.le_refl _)).tape.trans HG4.out.tape, (hb5 _ (Nat.le_refl _)).output.trans HG4.out.output, by have := HG4.out.size; omega, fun b h1 h2 => (hk5 b (by omega)).trans (HG4.out.block b h1 h2)⟩
    · exact (hk5 gl (by omega)).trans HL4.out
  | true =>
    have hcl : w3.cell? ⟨gl, 0, none⟩ = some (.int .i64 n) := cell_of_row _ _ _ _ _ _ HL3.out
    have HQ := Lib.hid hq
    clear hq
    go_upto_region 4 with (refine wpl_store rfl rfl stI rfl rfl (cs := [.int .i64 (n - 1)]) rfl rfl (by intro u hu; rw [List.mem_singleton.1 hu]; rfl) HL3.out (Nat.le_refl 1) (row := [.int .i64 (n - 1)]) rfl ?_; generalize hW4 : World.setRow _ _ _ = w4; obtain ⟨hd4, hk4, hz4, hb4⟩ := setRow_of hW4 HL3.out; have HR4 := Lib.hid ((hk4 w.heap.size (by omega)).trans HR3.out); have HRD4 := Lib.hid (HRD3.out.kept (fun b hb _ => hk4 b (by omega)) (by omega)); have HL4 := Lib.hid hd4; have HG4 : Hid (w.grownBy w4 (some gl)) := (⟨(hb4 gl (Nat.le_refl _)).os.trans HB3.out.os, (hb4 gl (Nat.le_refl _)).tape.trans HB3.out.tape, (hb4 gl (Nat.le_refl _)).output.trans HB3.out.output, (by have := HB3.out.size; omega), fun b h1 h2 => (hk4 b (fun h => h2 (by rw [h]))).trans (HB3.out.block b h1)⟩); have HA : Hid (∀ j, j < 13 → w4.cell? ⟨w2.heap.size, 0 + j, none⟩ = (VC.cells c2)[j]?) := (rowV ((hk4 w2.heap.size (by have := HZ2.out; omega)).trans HA3.out)); clear hW4 hd4 hk4 hb4)
    have HL5 : Hid (w4.heap[gl]? = some (.cells #[.int .i64 (n - b1 o.isSome)] 3 (0, 0))) := by unfold Hid; rw [HQ.out]; exact HL4.out
    clear HL4 hcl
    have HL4 := HL5
    clear HL5 HA3 HR3 HRD3 HL3 HB3
    go_wp2_with (first
      | refine wpl_load rfl rfl stVk rfl (cells_len _) HA.out ?_
      | (refine wpl_store rfl rfl stVk.2 rfl rfl (cs := VC.cells c2) rfl (cells_len _) HONE2.out HR4.out (Nat.le_refl 13) (row := VC.cells c2) (by rw [List.take_zero, List.nil_append, List.drop_of_length_le (by decide), List.append_nil]) ?_; generalize hW3 : World.setRow _ _ _ = w5; obtain ⟨hd5, hk5, hz5, hb5⟩ := setRow_of hW3 HR4.out; clear hW3))
    refine bodyPost_ret (results_two rfl _ _ w.heap.size _ _ _ _ _ rfl rfl hd5 Tryz.underlying30 rfl (by kernel_rfl)) rfl ⟨c2, by rw [HQ.out]; cases counts <;> rfl, ?_, ?_, ?_⟩
    · exact (HRD4.out.kept (fun b hb _ => hk5 b (by omega)) (by omega)).mono (fun b hb => by omega)
    · exact ⟨(hb5 _ (Nat.le_refl _)).os.trans HG4.out.os, (hb5 _ (Nat.le_refl _)).tape.trans HG4.out.tape, (hb5 _ (Nat.le_refl _)).output.trans HG4.out.output, by have := HG4.out.size; omega, fun b h1 h2 => (hk5 b (by omega)).trans (HG4.out.block b h1 h2)⟩
    · exact (hk5 gl (by omega)).trans HL4.out
end Go.Proofs.YtemiihkmpojpgaaGreatDoor
