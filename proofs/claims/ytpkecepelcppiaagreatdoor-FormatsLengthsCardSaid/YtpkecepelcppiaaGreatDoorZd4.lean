/- A law's row: the post, where the call only made new blocks and answers true; arguments of whatever shape. Conditions: none. -/
import Derived.Test.YtpkecepelcppiaaGreatDoorRows
import Derived.ProofKit
import Derived.OpenVars
namespace Go.Proofs.YtpkecepelcppiaaGreatDoor
open Go.ChangeShapes Go.WideShapes Go.ChangeAt Go.RowKit
set_option maxRecDepth 100000
set_option maxHeartbeats 1000000

theorem Tryz.own : ownKnob Tryz.prog.godebug = none := by kernel_rfl
theorem Tryz.laidOut : laidOutB Tryz.prog = true := by kernel_rfl
theorem trodAll_stays {H : Type} {enc : TypeId × Value → H} {P : Program} {W W' : World} {sp' : Nat → Bool} (hl : laidOutB P = true) :
  ∀ {ts : List TypeId} {vs : List Value} {ds : List (DataW H)} {ps : List MemPlace}, ts.all (fun t => P.readableRec t && decide (t < P.types.size)) = true →
   DataW.TrodAll enc P W 0 (fun _ => true) true ts vs ds ps → (∀ p ∈ ps, W.sameAt W' p) → (∀ p ∈ ps, sp' p.block = true) → DataW.TrodAll enc P W' 0 sp' true ts vs ds ps
 | [], [], [], _, _, h, _, _ => h
 | t :: ts, v :: vs, d :: ds, ps, ht, ⟨p, q, h1, h2, e⟩, hs, hsp => by
  simp only [List.all_cons, Bool.and_eq_true, decide_eq_true_eq] at ht
  refine ⟨p, q, WideElems.Trod_stays hl ht.1.1 ht.1.2 h1 (fun x hx => hs x ?_) (fun x hx => hsp x ?_), trodAll_stays hl ht.2 h2 (fun x hx => hs x ?_) (fun x hx => hsp x ?_), e⟩
  ·rw [e]; exact List.mem_append_left _ hx
  ·rw [e]; exact List.mem_append_left _ hx
  ·rw [e]; exact List.mem_append_right _ hx
  ·rw [e]; exact List.mem_append_right _ hx
theorem post_law {H : Type} {enc : TypeId × Value → H} {f : Func} {s : ChangeSpec} {fresh handsOn again : Bool} {W W' : World} {args : Array Value} {ds gs : List (DataW H)} {before : List MemPlace}
  (hW : DataW.Whole enc Tryz.prog f.params.toList s.vars false W args.toList ds gs before) (hv : s.vars = [])
  (hp : f.params.toList.all (fun t => Tryz.prog.readableRec t && decide (t < Tryz.prog.types.size)) = true)
  (hr : f.resultTypes = #[4]) (hfn : s.fn H (ds ++ gs) = { results := [.lit (.bool true)], args := ds })
  (hk : Below W.heap.size W W') : s.post enc Tryz.prog f false fresh handsOn again W args (.bool true) W' := by
 have hW' := hW
 obtain ⟨p, q, hA, hV, hps, hfz, _⟩ := hW
 rw [hv] at hV
 obtain ⟨rfl, rfl⟩ := trodVars_none hV
 rw [List.append_nil] at hps
 subst hps
 have hlt : ∀ x ∈ before, x.block < W.heap.size := fun x hx => hW'.lt x hx
 have hargs : ∀ sp' : Nat → Bool, (∀ x ∈ before, sp' x.block = true) → DataW.TrodAll enc Tryz.prog W' 0 sp' true f.params.toList args.toList ds before :=
  fun sp' hsp => trodAll_stays Tryz.laidOut hp hA (fun x hx => hk.same (hlt x hx)) hsp
 have hres : ∀ (b : Nat) (sp : Nat → Bool) (hd : Bool), DataW.TrodAll enc Tryz.prog W' b sp hd f.resultTypes.toList ((Value.bool true).resultList f.resultTypes.size) [.lit (.bool true)] [] := by
  intro b sp hd
  rw [hr]
  exact trodAll_mk1 (shut_bool Tryz.underlying4 true)
 refine ⟨ds, [], before, [], before, [], hW', by rw [hfn]; exact hres _ _ _, by rw [hfn]; exact hargs _ (fun x hx => by simpa using hlt x hx), by rw [hfn, hv]; exact rfl, hk.frame _, fun _ => ⟨ok_one hr rfl (okWide_bool_mk Tryz.underlying4 _), [.lit (.bool true)] ++ ds, [], before, ⟨[] ++ before, [], trodAll_append (hargs _ (fun _ _ => rfl)) (hres _ _ _), by rw [hv]; exact rfl, by simp, ?_, fun h => by cases h⟩, fun x hx _ => hx⟩⟩
 intro b off hx
 rw [← hfz b off hx]
 exact hk.frozen (p := ⟨b, off, none⟩) (hlt _ hx)
end Go.Proofs.YtpkecepelcppiaaGreatDoor
