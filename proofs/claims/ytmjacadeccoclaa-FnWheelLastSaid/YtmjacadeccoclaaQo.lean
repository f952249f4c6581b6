/- The statement is proved here. -/
import Derived.Test.YtmjacadeccoclaaCd
import Derived.Test.YtmjacadeccoclaaPv6
import Derived.ProofKit
set_option linter.all false
namespace Go.Proofs.Ytmjacadeccoclaa
open Go Go.RowKit Go.ChangeShapes Go.WideShapes Go.ChangeAt Go.Tw

theorem Try.own : ownKnob Try.prog.godebug = none := by kernel_rfl
theorem Try.laidOut : laidOutB Try.prog = true := by kernel_rfl

set_option maxRecDepth 100000 in
theorem fnWheelLast_calls {H : Type} {enc : TypeId × Value → H} {W : World} {base : Nat} {args : Array Value} {ds : List (DataW H)} {p : List MemPlace} (hA : DataW.TrodAll enc Try.prog W 0 (fun _ => true) true Try.f6.params.toList args.toList ds p)
    (hval : ∀ (j : Nat) t v, Try.f6.params[j]? = some t → args[j]? = some v → Value.okWide Try.prog W .any base t v) :
    Calls Try.prog 6 args W fun e W' => e = .returned (.bool true) ∧ Below W.heap.size W W' :=
  law_calls (f := 6) (fn := Try.f6) (ps := [((.sl (.int .u8)), false)]) (m := fun k x => laws_FnWheelLast k x.1) (fun k => ok6 k) (by kernel_rfl) (fun x h => law_FnWheelLast x.1 h.1) hA hval

set_option maxRecDepth 100000 in
theorem fnWheelLast_lifted (os : Os) (started : os.Started) (H : Type) (enc : TypeId × Value → H) :
    ReturnsInHanded {} Try.checked os 6 .any (Rows.fnWheelLastSpec.pre6 enc Try.prog Try.f6 Rows.fnWheelLastRow.domain false) (Rows.fnWheelLastSpec.post enc Try.prog Try.f6 false true false false) := by
  refine returnsInHanded_of_change (C := Try.checked) Try.own started (by kernel_rfl) Try.func6
    (ChangeSpec.witness6 (enc := enc) (C := Try.checked) false ⟨#[], #[.slice none 0 0], []⟩ 8 (by kernel_rfl) (by kernel_rfl) (by kernel_rfl) (by kernel_rfl)) ?_
  intro W base args ds gs before hval0 hW hcnd _
  have hval : ∀ (j : Nat) t v, Try.f6.params[j]? = some t → args[j]? = some v → Value.okWide Try.prog W .any base t v := hval0
  have hW' := hW
  obtain ⟨p, q, hA0, hV, rfl, hfz, hnd⟩ := hW
  have hA : DataW.TrodAll enc Try.prog W 0 (fun _ => true) true Try.f6.params.toList args.toList ds p := hA0
  refine (fnWheelLast_calls hA hval).mono fun e W' ⟨he, hb⟩ => ?_
  subst he
  have hds : ∃ d0, ds = [d0] ∧ gs = [] := by
    rw [Try.params6] at hA
    obtain ⟨v0, vs0, d0, ds0, p0, q0, hargs0, rfl, rfl, h0, r0⟩ := trodAll_cons hA
    obtain ⟨rfl, rfl, rfl⟩ := trodAll_nil r0
    obtain ⟨rfl, rfl⟩ := trodVars_none hV
    exact ⟨d0, rfl, rfl⟩
  obtain ⟨d0, rfl, rfl⟩ := hds
  exact ⟨_, rfl, law_post (fn := Try.f6) (tb := 4) hW' rfl rfl (by kernel_rfl) (by kernel_rfl) Try.laidOut (by kernel_rfl) hb⟩

theorem fnWheelLast_holds : Rows.FnWheelLastSaid :=
  OpenClaim.holds_of_wide 6 Try.f6 rfl rfl rfl rfl rfl rfl rfl ⟨rfl, rfl, rfl, rfl, rfl⟩ rfl rfl rfl rfl rfl (by kernel_rfl) Try.func6 (by kernel_rfl)
    (of_decide_eq_true (by kernel_rfl)) (by unfold Func.isWrapper; first | (rw [if_pos (by decide +kernel)]; kernel_rfl) | (rw [if_neg (by decide +kernel)]; exact ⟨rfl, rfl⟩))
    (fun os started H enc _ => fnWheelLast_lifted os started H enc)
end Go.Proofs.Ytmjacadeccoclaa
