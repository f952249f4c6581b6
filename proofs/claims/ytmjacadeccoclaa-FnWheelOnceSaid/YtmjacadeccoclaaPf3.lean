/- Plain facts on the mirrors of the functions are proved here. -/
import Derived.Test.YtmjacadeccoclaaMd
import Derived.Test.YtmjacadeccoclaaPf0
import Derived.Test.YtmjacadeccoclaaMd
import Derived.Test.YtmjacadeccoclaaPf0
set_option linter.all false
namespace Go.Tw
open Go Go.RowKit

theorem laws_szTimerS_ok : SzOk MM laws_szTimerS (WF (.sl T_Timer)) (fun x => ((List.length x : Nat) : Int) ≤ MM) := (szFlat_ok (α := D_Timer) (M := MM) (by decide)).imp (fun e h => h.1) (fun e h => h)
theorem laws_szTimerS_bd : SzOk MM laws_szTimerS (WF (.sl T_Timer)) (Bd (.sl T_Timer)) := laws_szTimerS_ok.imp (fun e h => h) (fun e h => ⟨h, fun x _ => ⟨trivial, ⟨trivial, trivial⟩⟩⟩)
theorem laws_szSpoke_bd : SzOk MM (laws_szSpoke) (WF T_Spoke) (Bd T_Spoke) := (SzOk.bind (p := fun e : D_Spoke => e.1) (laws_szTimerS_bd) SzOk.ret).imp (fun e h => ⟨h.1, trivial⟩) (fun e h => ⟨h.1, trivial⟩)
theorem laws_szSpokeS_bd (k : Nat) (hk : MM < k) : SzOk MM (laws_szSpokeS k) (WF (.sl T_Spoke)) (Bd (.sl T_Spoke)) := (szList_ok (f := laws_szSpoke) (z := z_Spoke) (by decide) (laws_szSpoke_bd) k hk).imp (fun e h => h) (fun e h => h)
theorem laws_szWheel_bd (k : Nat) (hk : MM < k) : SzOk MM (laws_szWheel k) (WF T_Wheel) (Bd T_Wheel) := (SzOk.bind (p := fun e : D_Wheel => e.2.1) (laws_szSpokeS_bd k hk) SzOk.ret).imp (fun e h => ⟨h.2.1, trivial⟩) (fun e h => ⟨trivial, ⟨h.1, trivial⟩⟩)
theorem laws_toTimer_ok (k : Nat) (hk : MM < k) (x : D_Timer) (h : Bd T_Timer x) : laws_toTimer x = some ((x, ()), ()) := by
  unfold laws_toTimer
  try simp only [Option.bind_some]
  try rfl
theorem laws_toTimerS_ok (k : Nat) (hk : MM < k) (x : (List D_Timer)) (h : Bd (.sl T_Timer) x) : laws_toTimerS k x = some ((x, ()), ()) := toList_ok (M := MM) (f := laws_toTimer) (z := z_Timer) (s := 16) k x h.1 hk (by decide) (by decide) (by decide) (fun e he => laws_toTimer_ok k hk e (h.2 e he))
theorem laws_toSpoke_ok (k : Nat) (hk : MM < k) (x : D_Spoke) (h : Bd T_Spoke x) : laws_toSpoke k x = some ((x, ()), ()) := by
  unfold laws_toSpoke
  try simp only [laws_toTimerS_ok k hk _ h.1, Option.bind_some]
  try rfl
theorem laws_toSpokeS_ok (k : Nat) (hk : MM < k) (x : (List D_Spoke)) (h : Bd (.sl T_Spoke) x) : laws_toSpokeS k x = some ((x, ()), ()) := toList_ok (M := MM) (f := laws_toSpoke k) (z := z_Spoke) (s := 24) k x h.1 hk (by decide) (by decide) (by decide) (fun e he => laws_toSpoke_ok k hk e (h.2 e he))
theorem laws_toWheel_ok (k : Nat) (hk : MM < k) (x : D_Wheel) (h : Bd T_Wheel x) : laws_toWheel k x = some ((x, ()), ()) := by
  unfold laws_toWheel
  try simp only [laws_toSpokeS_ok k hk _ h.2.1, Option.bind_some]
  try rfl
theorem laws_eqTimer_ok (k : Nat) (hk : MM < k) (x : D_Timer) (h : Bd T_Timer x) : laws_eqTimer x x = some ((true, ()), ()) := by
  unfold laws_eqTimer
  simp
theorem laws_eqTimerS_ok (k : Nat) (hk : MM < k) (x : (List D_Timer)) (h : Bd (.sl T_Timer) x) : laws_eqTimerS k x x = some ((true, ()), ()) := eqList_ok (M := MM) (f := laws_eqTimer) (z := z_Timer) k x h.1 hk (by decide) (fun e he => laws_eqTimer_ok k hk e (h.2 e he))
theorem laws_eqSpoke_ok (k : Nat) (hk : MM < k) (x : D_Spoke) (h : Bd T_Spoke x) : laws_eqSpoke k x x = some ((true, ()), ()) := by
  unfold laws_eqSpoke
  simp [laws_eqTimerS_ok k hk _ h.1]
theorem laws_eqSpokeS_ok (k : Nat) (hk : MM < k) (x : (List D_Spoke)) (h : Bd (.sl T_Spoke) x) : laws_eqSpokeS k x x = some ((true, ()), ()) := eqList_ok (M := MM) (f := laws_eqSpoke k) (z := z_Spoke) k x h.1 hk (by decide) (fun e he => laws_eqSpoke_ok k hk e (h.2 e he))
theorem laws_eqWheel_ok (k : Nat) (hk : MM < k) (x : D_Wheel) (h : Bd T_Wheel x) : laws_eqWheel k x x = some ((true, ()), ()) := by
  unfold laws_eqWheel
  simp [laws_eqSpokeS_ok k hk _ h.2.1]
theorem laws_eqIntS_ok (k : Nat) (hk : MM < k) (x : (List Int)) (h : Bd (.sl (.int .i64)) x) : laws_eqIntS k x x = some ((true, ()), ()) := eqList_ok (M := MM) (f := fun a b => some ((decide (a = b), ()), ())) (z := (0 : Int)) k x h.1 hk (by decide) (fun e _ => by simp)
end Go.Tw
