/- IndentlexScalars returns true for every string; its tied card. Conditions: none. -/
import Derived.Test.YtgddhkanfcpipaaGreatDoorZp10
import Derived.Test.YtgddhkanfcpipaaGreatDoorZk21
import Derived.Test.YtgddhkanfcpipaaGreatDoorCards
import Derived.Test.YtgddhkanfcpipaaGreatDoorTie
import Derived.OpenShut
import Derived.Lay
namespace Go.Proofs.YtgddhkanfcpipaaGreatDoor
open Go.ChangeShapes Go.WideShapes Go.ChangeAt Go.RowKit
open Go.ChangeMaps (open_string shut_string)
set_option maxRecDepth 100000

theorem indentlexScalars_contract (H : Type) (enc : TypeId × Value → H) (W : World) (base : Nat) (args : Array Value) (ds gs : List (DataW H)) (before : List MemPlace)
    (hval0 : ∀ (j : Nat) t v, Tryz.f4.params[j]? = some t → args[j]? = some v → Value.okWide Tryz.prog W .any base t v)
    (hW : DataW.Whole enc Tryz.prog Tryz.f4.params.toList Rows.indentlexScalarsSpec.vars false W args.toList ds gs before) (hl : laidMetH Tryz.prog Rows.indentlexScalarsRow.laid W) (hsh : W.ShapedOpen Tryz.prog) :
    Calls Tryz.prog 4 args W fun e W' => ∃ v, e = .returned v ∧ Rows.indentlexScalarsSpec.post enc Tryz.prog Tryz.f4 false true false false W args v W' := by
  have hval := hval0
  have hW' := hW
  obtain ⟨p, q, hA0, hV, hps, hfz, hnd⟩ := hW
  have hA : DataW.TrodAll enc Tryz.prog W 0 (fun _ => true) true Tryz.f4.params.toList args.toList ds p := hA0
  rw [Tryz.params4] at hA hval
  obtain ⟨v0, d0, rfl, rfl, h0⟩ := trodAll_one hA
  obtain ⟨rfl, rfl⟩ := trodVars_none hV
  obtain ⟨s0, rfl, rfl, rfl, w0⟩ := open_string Tryz.underlying9 (hval 0 9 v0 rfl rfl) h0
  refine (ScalarsI_any s0 W (envI_of_laid hl hsh)).mono fun e W' ⟨he, hb⟩ => ?_
  subst he
  exact ⟨_, rfl, post_law hW' rfl (by kernel_rfl) (by kernel_rfl) rfl hb⟩
theorem indentlexScalars_met (os : Os) : laidMet Tryz.prog Rows.indentlexScalarsRow.laid ((World.laidAll Tryz.prog os Rows.indentlexScalarsRow.laid).forCall (fun _ _ => 0) ⟨#[], #[.string ⟨#[]⟩], []⟩).memory :=
  laidMet_laidAll _ (by kernel_rfl) (by kernel_rfl)
theorem indentlexScalars_reads (os : Os) {H : Type} (enc : TypeId × Value → H) : ∃ places, DataW.whole enc Tryz.prog ((World.laidAll Tryz.prog os Rows.indentlexScalarsRow.laid).forCall (fun _ _ => 0) ⟨#[], #[.string ⟨#[]⟩], []⟩).memory Tryz.f4.params.toList Rows.indentlexScalarsSpec.vars false #[Value.string ⟨#[]⟩].toList 8 = some ([.lit (.string [])], [], places) :=
  ⟨[], by kernel_rfl⟩
theorem indentlexScalars_lifted (os : Os) (started : os.Started) (H : Type) (enc : TypeId × Value → H) (F : Stop.Interp) :
    ReturnsInHanded {} Tryz.checked os 4 .any ((OpenSpec.ofChange Rows.indentlexScalarsSpec).preRow enc Tryz.prog Tryz.f4 Rows.indentlexScalarsRow.domain false Rows.indentlexScalarsRow.laid) (((OpenSpec.ofChange Rows.indentlexScalarsSpec).at F).post enc Tryz.prog Tryz.f4 false true false false) := by
  obtain ⟨places, hx⟩ := indentlexScalars_reads os enc
  refine returnsInHanded_of_row (C := Tryz.checked) (s := OpenSpec.ofChange Rows.indentlexScalarsSpec) Tryz.own started (by kernel_rfl) Tryz.func4
    (witness_row_at (enc := enc) (C := Tryz.checked) false (World.laidAll Tryz.prog os Rows.indentlexScalarsRow.laid) #[.string ⟨#[]⟩] (World.laidAll_os _ _ _) (by kernel_rfl) (by kernel_rfl) (by kernel_rfl)
      (OpenSpec.preRow_of_cond 8 hx (by kernel_rfl) (fun k hk => by cases hk) (by kernel_rfl) (indentlexScalars_met os))) ?_
  intro W base args ds gs before hval hW _ _ _ hl hsh _
  exact indentlexScalars_contract H enc W base args ds gs before hval hW hl hsh
theorem indentlexScalars_holds : Rows.IndentlexScalarsSaid :=
  OpenClaim.holds_of_cond 4 Tryz.f4 rfl rfl rfl rfl rfl rfl rfl ⟨rfl, rfl, rfl, rfl, rfl⟩ rfl rfl rfl rfl rfl (by kernel_rfl) Tryz.func4 (by kernel_rfl)
    (of_decide_eq_true (by kernel_rfl)) (by unfold Func.isWrapper; first | (rw [if_pos (by decide +kernel)]; kernel_rfl) | (rw [if_neg (by decide +kernel)]; exact ⟨rfl, rfl⟩))
    (fun os started H enc _ F => by rw [OpenClaim.pre_eq_preRow]; exact indentlexScalars_lifted os started H enc F)
theorem indentlexScalars_plain (f : FuncId) (fn : Func) (hf : Tryz.pinned.checked.prog.funcNamed "datakit/datakitlaw21.IndentlexScalars" = some f) (hfn : Tryz.pinned.checked.prog.funcs[f]? = some fn) :
    false = Tryz.pinned.checked.prog.looks [] ∧ ∀ (j : Nat) t, fn.params[j]? = some t → Tryz.pinned.checked.prog.wantsStandIn t = false := by
  obtain rfl : f = 4 := Option.some.inj ((show Tryz.prog.funcNamed "datakit/datakitlaw21.IndentlexScalars" = some 4 by kernel_rfl).symm.trans hf) |>.symm
  obtain rfl : fn = Tryz.f4 := (Option.some.inj (Tryz.func4.symm.trans hfn)).symm
  refine ⟨by kernel_rfl, fun j t ht => ?_⟩
  rw [Tryz.params4] at ht
  obtain rfl : t = 9 := by simpa using Array.mem_of_getElem? ht
  exact (show Tryz.prog.wantsStandIn 9 = false by kernel_rfl)
theorem indentlexScalars_card : Rows.IndentlexScalarsCardSaid :=
  Claim7.holds_tied_plain_at .later [] _ _ _ _ indentlexScalars_holds (fun _ h => by cases h) (by kernel_rfl) (fun _ h => by cases h) indentlexScalars_row_tie rfl ⟨rfl, rfl⟩ (by kernel_rfl) rfl indentlexScalars_plain (by kernel_rfl)
end Go.Proofs.YtgddhkanfcpipaaGreatDoor
