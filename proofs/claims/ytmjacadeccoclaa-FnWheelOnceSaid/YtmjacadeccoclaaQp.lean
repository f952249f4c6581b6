/- The statement is proved here. -/
import Derived.Test.YtmjacadeccoclaaCd
import Derived.Test.YtmjacadeccoclaaPv7
import Derived.ProofKit
set_option linter.all false
namespace Go.Proofs.Ytmjacadeccoclaa
open Go Go.RowKit Go.ChangeShapes Go.WideShapes Go.ChangeAt Go.Tw

theorem Try.own : ownKnob Try.prog.godebug = none := by kernel_rfl
theorem Try.laidOut : laidOutB Try.prog = true := by kernel_rfl

set_option maxRecDepth 100000 in
theorem fnWheelOnce_calls {H : Type} {enc : TypeId × Value → H} {W : World} {base : Nat} {args : Array Value} {ds : List (DataW H)} {p : List MemPlace} (hA : DataW.TrodAll enc Try.prog W 0 (fun _ => true) true Try.f3.params.toList args.toList ds p)
    (hval : ∀ (j : Nat) t v, Try.f3.params[j]? = some t → args[j]? = some v → Value.okWide Try.prog W .any base t v) :
    Calls Try.prog 3 args W fun e W' => e = .returned (.bool true) ∧ Below W.heap.size W W' :=
  law_calls (f := 3) (fn := Try.f3) (ps := [((.sl (.int .u8)), false)]) (m := fun k x => laws_FnWheelOnce k x.1) (fun k => ok3 k) (by kernel_rfl) (fun x h => law_FnWheelOnce x.1 h.1) hA hval

set_option maxRecDepth 100000 in
theorem fnWheelOnce_lifted (os : Os) (started : os.Started) (H : Type) (enc : TypeId × Value → H) :
    ReturnsInHanded {} Try.checked os 3 .any (Rows.fnWheelOnceSpec.pre6 enc Try.prog Try.f3 Rows.fnWheelOnceRow.domain false) (Rows.fnWheelOnceSpec.post enc Try.prog Try.f3 false true false false) := by
  refine returnsInHanded_of_change (C := Try.checked) Try.own started (by kernel_rfl) Try.func3
    (ChangeSpec.witness6 (enc := enc) (C := Try.checked) false ⟨#[], #[.slice none 0 0], []⟩ 8 (by kernel_rfl) (by kernel_rfl) (by kernel_rfl) (by kernel_rfl)) ?_
  intro W base args ds gs before hval0 hW hcnd _
  have hval : ∀ (j : Nat) t v, Try.f3.params[j]? = some t → args[j]? = some v → Value.okWide Try.prog W .any base t v := hval0
  have hW' := hW
  obtain ⟨p, q, hA0, hV, rfl, hfz, hnd⟩ := hW
  have hA : DataW.TrodAll enc Try.prog W 0 (fun _ => true) true Try.f3.params.toList args.toList ds p := hA0
  refine (fnWheelOnce_calls hA hval).mono fun e W' ⟨he, hb⟩ => ?_
  subst he
  have hds : ∃ d0, ds = [d0] ∧ gs = [] := by
    rw [Try.params3] at hA
    obtain ⟨v0, vs0, d0, ds0, p0, q0, hargs0, rfl, rfl, h0, r0⟩ := trodAll_cons hA
    obtain ⟨rfl, rfl, rfl⟩ := trodAll_nil r0
    obtain ⟨rfl, rfl⟩ := trodVars_none hV
    exact ⟨d0, rfl, rfl⟩
  obtain ⟨d0, rfl, rfl⟩ := hds
  exact ⟨_, rfl, law_post (fn := Try.f3) (tb := 4) hW' rfl rfl (by kernel_rfl) (by kernel_rfl) Try.laidOut (by kernel_rfl) hb⟩

theorem fnWheelOnce_holds : Rows.FnWheelOnceSaid :=
  OpenClaim.holds_of_wide 3 Try.f3 rfl rfl rfl rfl rfl rfl rfl ⟨rfl, rfl, rfl, rfl, rfl⟩ rfl rfl rfl rfl rfl (by kernel_rfl) Try.func3 (by kernel_rfl)
    (of_decide_eq_true (by kernel_rfl)) (by unfold Func.isWrapper; first | (rw [if_pos (by decide +kernel)]; kernel_rfl) | (rw [if_neg (by decide +kernel)]; exact ⟨rfl, rfl⟩))
    (fun os started H enc _ => fnWheelOnce_lifted os started H enc)
end Go.Proofs.Ytmjacadeccoclaa
