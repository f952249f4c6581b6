/- The statement is proved here. -/
import Derived.Test.YtmnfadocihfiaaaGreatCr
import Derived.Test.YtmnfadocihfiaaaGreatPn24
import Derived.ProofKit
set_option linter.all false
namespace Go.Proofs.YtmnfadocihfiaaaGreat
open Go Go.RowKit Go.ChangeShapes Go.WideShapes Go.ChangeAt Go.Tw

theorem Tryz.own : ownKnob Tryz.prog.godebug = none := by kernel_rfl
theorem Tryz.laidOut : laidOutB Tryz.prog = true := by kernel_rfl

set_option maxRecDepth 100000 in
theorem fnExactRulesAt_calls {H : Type} {enc : TypeId × Value → H} {W : World} {base : Nat} {args : Array Value} {ds : List (DataW H)} {p : List MemPlace} (hA : DataW.TrodAll enc Tryz.prog W 0 (fun _ => true) true Tryz.f5.params.toList args.toList ds p)
    (hval : ∀ (j : Nat) t v, Tryz.f5.params[j]? = some t → args[j]? = some v → Value.okWide Tryz.prog W .any base t v) :
    Calls Tryz.prog 5 args W fun e W' => e = .returned (.bool true) ∧ Below W.heap.size W W' :=
  law_calls (f := 5) (fn := Tryz.f5) (ps := [(.sl T_Event, false), (.int .i64, false)]) (m := fun k x => laws_FnExactRulesAt k x.1 x.2.1) (fun k => ok5 k) (by kernel_rfl) (fun x h => law_FnExactRulesAt x.1 x.2.1 h.1 h.2.1) hA hval

set_option maxRecDepth 100000 in
theorem fnExactRulesAt_lifted (os : Os) (started : os.Started) (H : Type) (enc : TypeId × Value → H) :
    ReturnsInHanded {} Tryz.checked os 5 .any (Rows.fnExactRulesAtSpec.pre6 enc Tryz.prog Tryz.f5 Rows.fnExactRulesAtRow.domain false) (Rows.fnExactRulesAtSpec.post enc Tryz.prog Tryz.f5 false true false false) := by
  refine returnsInHanded_of_change (C := Tryz.checked) Tryz.own started (by kernel_rfl) Tryz.func5
    (ChangeSpec.witness6 (enc := enc) (C := Tryz.checked) false ⟨#[], #[.slice none 0 0, .int .i64 0], []⟩ 8 (by kernel_rfl) (by kernel_rfl) (by kernel_rfl) (by kernel_rfl)) ?_
  intro W base args ds gs before hval0 hW hcnd _
  have hval : ∀ (j : Nat) t v, Tryz.f5.params[j]? = some t → args[j]? = some v → Value.okWide Tryz.prog W .any base t v := hval0
  have hW' := hW
  obtain ⟨p, q, hA0, hV, rfl, hfz, hnd⟩ := hW
  have hA : DataW.TrodAll enc Tryz.prog W 0 (fun _ => true) true Tryz.f5.params.toList args.toList ds p := hA0
  refine (fnExactRulesAt_calls hA hval).mono fun e W' ⟨he, hb⟩ => ?_
  subst he
  have hds : ∃ d0 d1, ds = [d0, d1] ∧ gs = [] := by
    rw [Tryz.params5] at hA
    obtain ⟨v0, vs0, d0, ds0, p0, q0, hargs0, rfl, rfl, h0, r0⟩ := trodAll_cons hA
    obtain ⟨v1, vs1, d1, ds1, p1, q1, hargs1, rfl, rfl, h1, r1⟩ := trodAll_cons r0
    obtain ⟨rfl, rfl, rfl⟩ := trodAll_nil r1
    obtain ⟨rfl, rfl⟩ := trodVars_none hV
    exact ⟨d0, d1, rfl, rfl⟩
  obtain ⟨d0, d1, rfl, rfl⟩ := hds
  exact ⟨_, rfl, law_post (fn := Tryz.f5) (tb := 4) hW' rfl rfl (by kernel_rfl) (by kernel_rfl) Tryz.laidOut (by kernel_rfl) hb⟩

theorem fnExactRulesAt_holds : Rows.FnExactRulesAtSaid :=
  OpenClaim.holds_of_wide 5 Tryz.f5 rfl rfl rfl rfl rfl rfl rfl ⟨rfl, rfl, rfl, rfl, rfl⟩ rfl rfl rfl rfl rfl (by as_aux_lemma => kernel_rfl) Tryz.func5 (by as_aux_lemma => kernel_rfl)
    (of_decide_eq_true (by as_aux_lemma => kernel_rfl)) (by as_aux_lemma => unfold Func.isWrapper; first | (rw [if_pos (by decide +kernel)]; kernel_rfl) | (rw [if_neg (by decide +kernel)]; exact ⟨rfl, rfl⟩))
    (fun os started H enc _ => fnExactRulesAt_lifted os started H enc)
end Go.Proofs.YtmnfadocihfiaaaGreat
