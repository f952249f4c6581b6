/- The statement is proved here, under no condition. -/
import Derived.Test.YtemcbhjheebnnaaGreatCr
import Derived.Test.YtemcbhjheebnnaaGreatPb5
import Derived.ProofKit
set_option linter.all false
namespace Go.Proofs.YtemcbhjheebnnaaGreat
open Go Go.RowKit Go.ChangeShapes Go.WideShapes Go.ChangeAt Go.Tw
theorem Tryz.own : ownKnob Tryz.prog.godebug = none := by kernel_rfl
theorem Tryz.laidOut : laidOutB Tryz.prog = true := by kernel_rfl
set_option maxRecDepth 100000 in
theorem fnExactChainDo_calls {H : Type} {enc : TypeId × Value → H} {W : World} {base : Nat} {args : Array Value} {ds : List (DataW H)} {p : List MemPlace} (hA : DataW.TrodAll enc Tryz.prog W 0 (fun _ => true) true Tryz.f4.params.toList args.toList ds p)
    (hval : ∀ (j : Nat) t v, Tryz.f4.params[j]? = some t → args[j]? = some v → Value.okWide Tryz.prog W .any base t v) :
    Calls Tryz.prog 4 args W fun e W' => e = .returned (.bool true) ∧ Below W.heap.size W W' :=
  AR (f := 4) (fn := Tryz.f4) (ps := [((.sl fw), false), (aU, false), ((.sl (.int .i64)), false)]) (m := fun k x => R5 k x.1 x.2.1 x.2.2.1) (fun k => WA k) (by kernel_rfl) (fun x h => SD x.1 x.2.1 x.2.2.1 h.1 h.2.1 h.2.2.1) hA hval
set_option maxRecDepth 100000 in
theorem fnExactChainDo_lifted (os : Os) (started : os.Started) (H : Type) (enc : TypeId × Value → H) :
    ReturnsInHanded {} Tryz.checked os 4 .any (Rows.fnExactChainDoSpec.pre6 enc Tryz.prog Tryz.f4 Rows.fnExactChainDoRow.domain false) (Rows.fnExactChainDoSpec.post enc Tryz.prog Tryz.f4 false true false false) := by
  refine returnsInHanded_of_change (C := Tryz.checked) Tryz.own started (by kernel_rfl) Tryz.func4
    (ChangeSpec.witness6 (enc := enc) (C := Tryz.checked) false ⟨#[], #[.slice none 0 0, .agg #[.int .i64 0, .int .i64 0, .int .i64 0, .int .i64 0, .int .i64 0, .slice none 0 0, .int .i64 0, .int .i64 0, .int .i64 0, .int .i64 0, .int .i64 0, .int .i64 0, .int .i64 0, .int .i64 0, .int .i64 0, .int .i64 0, .int .i64 0, .int .i64 0, .int .i64 0, .int .i64 0, .int .i64 0, .int .i64 0, .int .i64 0, .slice none 0 0, .slice none 0 0, .int .i64 0, .int .i64 0, .int .i64 0, .int .i64 0, .int .i64 0, .int .i64 0, .int .i64 0, .int .i64 0, .int .i64 0, .int .i64 0, .int .i64 0, .int .i64 0, .int .i64 0, .int .i64 0, .slice none 0 0, .slice none 0 0, .int .i64 0, .int .i64 0, .int .i64 0, .int .i64 0, .int .i64 0, .int .i64 0, .int .i64 0, .int .i64 0, .int .i64 0, .int .i64 0, .int .i64 0, .bool false, .slice none 0 0, .slice none 0 0, .slice none 0 0], .slice none 0 0], []⟩ 8 (by kernel_rfl) (by kernel_rfl) (by kernel_rfl) (by kernel_rfl)) ?_
  intro W base args ds gs before hval0 hW hcnd _
  have hval : ∀ (j : Nat) t v, Tryz.f4.params[j]? = some t → args[j]? = some v → Value.okWide Tryz.prog W .any base t v := hval0
  have hW' := hW
  obtain ⟨p, q, hA0, hV, rfl, hfz, hnd⟩ := hW
  have hA : DataW.TrodAll enc Tryz.prog W 0 (fun _ => true) true Tryz.f4.params.toList args.toList ds p := hA0
  refine (fnExactChainDo_calls hA hval).mono fun e W' ⟨he, hb⟩ => ?_
  subst he
  have hds : ∃ d0 d1 d2, ds = [d0, d1, d2] ∧ gs = [] := by
    rw [Tryz.params4] at hA
    obtain ⟨v0, vs0, d0, ds0, p0, q0, hargs0, rfl, rfl, h0, r0⟩ := trodAll_cons hA
    obtain ⟨v1, vs1, d1, ds1, p1, q1, hargs1, rfl, rfl, h1, r1⟩ := trodAll_cons r0
    obtain ⟨v2, vs2, d2, ds2, p2, q2, hargs2, rfl, rfl, h2, r2⟩ := trodAll_cons r1
    obtain ⟨rfl, rfl, rfl⟩ := trodAll_nil r2
    obtain ⟨rfl, rfl⟩ := trodVars_none hV
    exact ⟨d0, d1, d2, rfl, rfl⟩
  obtain ⟨d0, d1, d2, rfl, rfl⟩ := hds
  exact ⟨_, rfl, Ek (fn := Tryz.f4) (tb := 4) hW' rfl rfl (by kernel_rfl) (by kernel_rfl) Tryz.laidOut (by kernel_rfl) hb⟩
theorem fnExactChainDo_main : ¬ Check.packageOf Tryz.f4.name = "main" := by decide +kernel
set_option maxHeartbeats 4000000 in
theorem fnExactChainDo_holds : Rows.FnExactChainDoSaid :=
  OpenClaim.holds_of_wide 4 Tryz.f4 rfl rfl rfl rfl rfl rfl rfl ⟨rfl, rfl, rfl, rfl, rfl⟩ rfl rfl rfl rfl rfl (by as_aux_lemma => kernel_rfl) Tryz.func4 (by as_aux_lemma => kernel_rfl)
    (of_decide_eq_true (by as_aux_lemma => kernel_rfl)) (by unfold Func.isWrapper; rw [if_neg fnExactChainDo_main]; exact ⟨rfl, rfl⟩)
    (fun os started H enc _ => fnExactChainDo_lifted os started H enc)
end Go.Proofs.YtemcbhjheebnnaaGreat
