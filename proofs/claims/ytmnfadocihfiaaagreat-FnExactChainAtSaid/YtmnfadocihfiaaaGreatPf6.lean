/- Plain facts on the mirrors of the functions are proved here. -/
import Derived.Test.YtmnfadocihfiaaaGreatMr
import Derived.Test.YtmnfadocihfiaaaGreatPf0
set_option linter.all false
namespace Go.Tw
open Go Go.RowKit
theorem laws_szByteS_ok : SzOk MM laws_szByteS (WF (.sl (.int .u8))) (fun x => ((List.length x : Nat) : Int) ≤ MM) := (szFlat_ok (α := Int) (M := MM) (by decide)).imp (fun e h => h.1) (fun e h => h)
theorem laws_szByteS_bd : SzOk MM laws_szByteS (WF (.sl (.int .u8))) (Bd (.sl (.int .u8))) := laws_szByteS_ok.imp (fun e h => h) (fun e h => ⟨h, fun x _ => trivial⟩)
theorem laws_szEvent_bd : SzOk MM (laws_szEvent) (WF T_Event) (Bd T_Event) := (SzOk.bind (p := fun e : D_Event => e.2.2.1) (laws_szByteS_bd) SzOk.ret).imp (fun e h => ⟨h.2.2.1, trivial⟩) (fun e h => ⟨trivial, ⟨trivial, ⟨h.1, ⟨⟨trivial, ⟨trivial, ⟨trivial, trivial⟩⟩⟩, trivial⟩⟩⟩⟩)
theorem laws_szEventS_bd (k : Nat) (hk : MM < k) : SzOk MM (laws_szEventS k) (WF (.sl T_Event)) (Bd (.sl T_Event)) := (szList_ok (f := laws_szEvent) (z := z_Event) (by decide) (laws_szEvent_bd) k hk).imp (fun e h => h) (fun e h => h)
theorem laws_toByteS_ok (k : Nat) (hk : MM < k) (x : (List Int)) (h : Bd (.sl (.int .u8)) x) : laws_toByteS k x = some ((x, ()), ()) := toList_ok (M := MM) (f := fun e => some ((e, ()), ())) (z := (0 : Int)) (s := 1) k x h.1 hk (by decide) (by decide) (by decide) (fun e _ => rfl)
theorem laws_toVec_ok (k : Nat) (hk : MM < k) (x : D_Vec) (h : Bd T_Vec x) : laws_toVec x = some ((x, ()), ()) := by
  unfold laws_toVec
  try simp only [Option.bind_some]
  try rfl
theorem laws_toEvent_ok (k : Nat) (hk : MM < k) (x : D_Event) (h : Bd T_Event x) : laws_toEvent k x = some ((x, ()), ()) := by
  unfold laws_toEvent
  try simp only [laws_toByteS_ok k hk _ h.2.2.1, laws_toVec_ok k hk _ h.2.2.2.1, Option.bind_some]
  try rfl
theorem laws_toEventS_ok (k : Nat) (hk : MM < k) (x : (List D_Event)) (h : Bd (.sl T_Event) x) : laws_toEventS k x = some ((x, ()), ()) := toList_ok (M := MM) (f := laws_toEvent k) (z := z_Event) (s := 64) k x h.1 hk (by decide) (by decide) (by decide) (fun e he => laws_toEvent_ok k hk e (h.2 e he))
theorem laws_eqAddr_ok (k : Nat) (hk : MM < k) (x : D_Addr) (h : Bd T_Addr x) : laws_eqAddr x x = some ((true, ()), ()) := by
  unfold laws_eqAddr
  simp
theorem laws_eqPrefix_ok (k : Nat) (hk : MM < k) (x : D_Prefix) (h : Bd T_Prefix x) : laws_eqPrefix x x = some ((true, ()), ()) := by
  unfold laws_eqPrefix
  simp [laws_eqAddr_ok k hk _ h.1]
theorem laws_eqModule_ok (k : Nat) (hk : MM < k) (x : D_Module) (h : Bd T_Module x) : laws_eqModule x x = some ((true, ()), ()) := by
  unfold laws_eqModule
  simp [laws_eqPrefix_ok k hk _ h.2.1, laws_eqPrefix_ok k hk _ h.2.2.1]
theorem laws_eqModuleS_ok (k : Nat) (hk : MM < k) (x : (List D_Module)) (h : Bd (.sl T_Module) x) : laws_eqModuleS k x x = some ((true, ()), ()) := eqList_ok (M := MM) (f := laws_eqModule) (z := z_Module) k x h.1 hk (by decide) (fun e he => laws_eqModule_ok k hk e (h.2 e he))
theorem laws_eqByteS_ok (k : Nat) (hk : MM < k) (x : (List Int)) (h : Bd (.sl (.int .u8)) x) : laws_eqByteS k x x = some ((true, ()), ()) := eqList_ok (M := MM) (f := fun a b => some ((decide (a = b), ()), ())) (z := (0 : Int)) k x h.1 hk (by decide) (fun e _ => by simp)
theorem laws_eqVec_ok (k : Nat) (hk : MM < k) (x : D_Vec) (h : Bd T_Vec x) : laws_eqVec x x = some ((true, ()), ()) := by
  unfold laws_eqVec
  simp
theorem laws_eqEvent_ok (k : Nat) (hk : MM < k) (x : D_Event) (h : Bd T_Event x) : laws_eqEvent k x x = some ((true, ()), ()) := by
  unfold laws_eqEvent
  simp [laws_eqByteS_ok k hk _ h.2.2.1, laws_eqVec_ok k hk _ h.2.2.2.1]
theorem laws_eqEventS_ok (k : Nat) (hk : MM < k) (x : (List D_Event)) (h : Bd (.sl T_Event) x) : laws_eqEventS k x x = some ((true, ()), ()) := eqList_ok (M := MM) (f := laws_eqEvent k) (z := z_Event) k x h.1 hk (by decide) (fun e he => laws_eqEvent_ok k hk e (h.2 e he))
end Go.Tw
