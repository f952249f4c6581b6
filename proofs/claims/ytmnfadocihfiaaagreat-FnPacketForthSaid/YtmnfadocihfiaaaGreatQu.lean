/- The statement is proved here, under no condition. -/
import Derived.Test.YtmnfadocihfiaaaGreatCr
import Derived.Test.YtmnfadocihfiaaaGreatPsG
import Derived.ProofKit
set_option linter.all false
namespace Go.Proofs.YtmnfadocihfiaaaGreat
open Go Go.RowKit Go.ChangeShapes Go.WideShapes Go.ChangeAt Go.Tw
theorem Tryz.own : ownKnob Tryz.prog.godebug = none := by kernel_rfl
theorem Tryz.laidOut : laidOutB Tryz.prog = true := by kernel_rfl
set_option maxRecDepth 100000 in
theorem fnPacketForth_calls {H : Type} {enc : TypeId × Value → H} {W : World} {base : Nat} {args : Array Value} {ds : List (DataW H)} {p : List MemPlace} (hA : DataW.TrodAll enc Tryz.prog W 0 (fun _ => true) true Tryz.f7.params.toList args.toList ds p)
    (hval : ∀ (j : Nat) t v, Tryz.f7.params[j]? = some t → args[j]? = some v → Value.okWide Tryz.prog W .any base t v) :
    Calls Tryz.prog 7 args W fun e W' => e = .returned (.bool true) ∧ Below W.heap.size W W' :=
  law_calls (f := 7) (fn := Tryz.f7) (ps := [((.sl (.int .u8)), false)]) (m := fun k x => laws_FnPacketForth k x.1) (fun k => ok7 k) (by kernel_rfl) (fun x h => law_FnPacketForth x.1 h.1) hA hval
set_option maxRecDepth 100000 in
theorem fnPacketForth_lifted (os : Os) (started : os.Started) (H : Type) (enc : TypeId × Value → H) :
    ReturnsInHanded {} Tryz.checked os 7 .any (Rows.fnPacketForthSpec.pre6 enc Tryz.prog Tryz.f7 Rows.fnPacketForthRow.domain false) (Rows.fnPacketForthSpec.post enc Tryz.prog Tryz.f7 false true false false) := by
  refine returnsInHanded_of_change (C := Tryz.checked) Tryz.own started (by kernel_rfl) Tryz.func7
    (ChangeSpec.witness6 (enc := enc) (C := Tryz.checked) false ⟨#[], #[.slice none 0 0], []⟩ 8 (by kernel_rfl) (by kernel_rfl) (by kernel_rfl) (by kernel_rfl)) ?_
  intro W base args ds gs before hval0 hW hcnd _
  have hval : ∀ (j : Nat) t v, Tryz.f7.params[j]? = some t → args[j]? = some v → Value.okWide Tryz.prog W .any base t v := hval0
  have hW' := hW
  obtain ⟨p, q, hA0, hV, rfl, hfz, hnd⟩ := hW
  have hA : DataW.TrodAll enc Tryz.prog W 0 (fun _ => true) true Tryz.f7.params.toList args.toList ds p := hA0
  refine (fnPacketForth_calls hA hval).mono fun e W' ⟨he, hb⟩ => ?_
  subst he
  have hds : ∃ d0, ds = [d0] ∧ gs = [] := by
    rw [Tryz.params7] at hA
    obtain ⟨v0, vs0, d0, ds0, p0, q0, hargs0, rfl, rfl, h0, r0⟩ := trodAll_cons hA
    obtain ⟨rfl, rfl, rfl⟩ := trodAll_nil r0
    obtain ⟨rfl, rfl⟩ := trodVars_none hV
    exact ⟨d0, rfl, rfl⟩
  obtain ⟨d0, rfl, rfl⟩ := hds
  exact ⟨_, rfl, law_post (fn := Tryz.f7) (tb := 4) hW' rfl rfl (by kernel_rfl) (by kernel_rfl) Tryz.laidOut (by kernel_rfl) hb⟩
theorem fnPacketForth_main : ¬ Check.packageOf Tryz.f7.name = "main" := by decide +kernel
set_option maxHeartbeats 4000000 in
theorem fnPacketForth_holds : Rows.FnPacketForthSaid :=
  OpenClaim.holds_of_wide 7 Tryz.f7 rfl rfl rfl rfl rfl rfl rfl ⟨rfl, rfl, rfl, rfl, rfl⟩ rfl rfl rfl rfl rfl (by as_aux_lemma => kernel_rfl) Tryz.func7 (by as_aux_lemma => kernel_rfl)
    (of_decide_eq_true (by as_aux_lemma => kernel_rfl)) (by unfold Func.isWrapper; rw [if_neg fnPacketForth_main]; exact ⟨rfl, rfl⟩)
    (fun os started H enc _ => fnPacketForth_lifted os started H enc)
end Go.Proofs.YtmnfadocihfiaaaGreat
