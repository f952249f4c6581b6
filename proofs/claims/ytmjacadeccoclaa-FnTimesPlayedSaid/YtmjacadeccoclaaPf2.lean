/- Plain facts on the mirrors of the functions are proved here. -/
import Derived.Test.YtmjacadeccoclaaMc
import Derived.Test.YtmjacadeccoclaaPf0
set_option linter.all false
namespace Go.Tw
open Go Go.RowKit

theorem laws_szJobS_ok : SzOk MM laws_szJobS (WF (.sl T_Job)) (fun x => ((List.length x : Nat) : Int) ≤ MM) := (szFlat_ok (α := D_Job) (M := MM) (by decide)).imp (fun e h => h.1) (fun e h => h)
theorem laws_szJobS_bd : SzOk MM laws_szJobS (WF (.sl T_Job)) (Bd (.sl T_Job)) := laws_szJobS_ok.imp (fun e h => h) (fun e h => ⟨h, fun x _ => ⟨trivial, ⟨⟨trivial, ⟨trivial, ⟨trivial, trivial⟩⟩⟩, trivial⟩⟩⟩)
theorem laws_szLine_bd : SzOk MM (laws_szLine) (WF T_Line) (Bd T_Line) := (SzOk.bind (p := fun e : D_Line => e.2.1) (laws_szJobS_bd) (SzOk.bind (p := fun e : D_Line => e.2.2.1) (laws_szJobS_bd) (SzOk.bind (p := fun e : D_Line => e.2.2.2.1) (laws_szJobS_bd) SzOk.ret))).imp (fun e h => ⟨h.2.1, h.2.2.1, h.2.2.2.1, trivial⟩) (fun e h => ⟨trivial, ⟨h.1, ⟨h.2.1, ⟨h.2.2.1, trivial⟩⟩⟩⟩)
theorem laws_toVec_ok (k : Nat) (hk : MM < k) (x : D_Vec) (h : Bd T_Vec x) : laws_toVec x = some ((x, ()), ()) := by
  unfold laws_toVec
  try simp only [Option.bind_some]
  try rfl
theorem laws_toJob_ok (k : Nat) (hk : MM < k) (x : D_Job) (h : Bd T_Job x) : laws_toJob x = some ((x, ()), ()) := by
  unfold laws_toJob
  try simp only [laws_toVec_ok k hk _ h.2.1, Option.bind_some]
  try rfl
theorem laws_toJobS_ok (k : Nat) (hk : MM < k) (x : (List D_Job)) (h : Bd (.sl T_Job) x) : laws_toJobS k x = some ((x, ()), ()) := toList_ok (M := MM) (f := laws_toJob) (z := z_Job) (s := 32) k x h.1 hk (by decide) (by decide) (by decide) (fun e he => laws_toJob_ok k hk e (h.2 e he))
theorem laws_toLine_ok (k : Nat) (hk : MM < k) (x : D_Line) (h : Bd T_Line x) : laws_toLine k x = some ((x, ()), ()) := by
  unfold laws_toLine
  try simp only [laws_toJobS_ok k hk _ h.2.1, laws_toJobS_ok k hk _ h.2.2.1, laws_toJobS_ok k hk _ h.2.2.2.1, Option.bind_some]
  try rfl
theorem laws_eqVec_ok (k : Nat) (hk : MM < k) (x : D_Vec) (h : Bd T_Vec x) : laws_eqVec x x = some ((true, ()), ()) := by
  unfold laws_eqVec
  simp
theorem laws_eqJob_ok (k : Nat) (hk : MM < k) (x : D_Job) (h : Bd T_Job x) : laws_eqJob x x = some ((true, ()), ()) := by
  unfold laws_eqJob
  simp [laws_eqVec_ok k hk _ h.2.1]
theorem laws_eqJobS_ok (k : Nat) (hk : MM < k) (x : (List D_Job)) (h : Bd (.sl T_Job) x) : laws_eqJobS k x x = some ((true, ()), ()) := eqList_ok (M := MM) (f := laws_eqJob) (z := z_Job) k x h.1 hk (by decide) (fun e he => laws_eqJob_ok k hk e (h.2 e he))
theorem laws_eqLine_ok (k : Nat) (hk : MM < k) (x : D_Line) (h : Bd T_Line x) : laws_eqLine k x x = some ((true, ()), ()) := by
  unfold laws_eqLine
  simp [laws_eqJobS_ok k hk _ h.2.1, laws_eqJobS_ok k hk _ h.2.2.1, laws_eqJobS_ok k hk _ h.2.2.2.1]
theorem laws_eqIntS_ok (k : Nat) (hk : MM < k) (x : (List Int)) (h : Bd (.sl (.int .i64)) x) : laws_eqIntS k x x = some ((true, ()), ()) := eqList_ok (M := MM) (f := fun a b => some ((decide (a = b), ()), ())) (z := (0 : Int)) k x h.1 hk (by decide) (fun e _ => by simp)
end Go.Tw
