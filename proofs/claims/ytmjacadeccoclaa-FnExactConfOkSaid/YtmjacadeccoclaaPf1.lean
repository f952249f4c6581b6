/- Plain facts on the mirrors of the functions are proved here. -/
import Derived.Test.YtmjacadeccoclaaMb
import Derived.Test.YtmjacadeccoclaaPf0
set_option linter.all false
namespace Go.Tw
open Go Go.RowKit

theorem laws_szProfS_ok : SzOk MM laws_szProfS (WF (.sl T_Prof)) (fun x => ((List.length x : Nat) : Int) ≤ MM) := (szFlat_ok (α := D_Prof) (M := MM) (by decide)).imp (fun e h => h.1) (fun e h => h)
theorem laws_szProfS_bd : SzOk MM laws_szProfS (WF (.sl T_Prof)) (Bd (.sl T_Prof)) := laws_szProfS_ok.imp (fun e h => h) (fun e h => ⟨h, fun x _ => ⟨⟨trivial, ⟨trivial, ⟨trivial, trivial⟩⟩⟩, ⟨⟨trivial, ⟨trivial, ⟨trivial, trivial⟩⟩⟩, trivial⟩⟩⟩)
theorem laws_szConf_bd : SzOk MM (laws_szConf) (WF T_Conf) (Bd T_Conf) := (SzOk.bind (p := fun e : D_Conf => e.2.2.2.2.2.2.1) (laws_szProfS_bd) SzOk.ret).imp (fun e h => ⟨h.2.2.2.2.2.2.1, trivial⟩) (fun e h => ⟨trivial, ⟨trivial, ⟨trivial, ⟨trivial, ⟨trivial, ⟨⟨trivial, ⟨trivial, ⟨trivial, ⟨trivial, ⟨trivial, trivial⟩⟩⟩⟩⟩, ⟨h.1, trivial⟩⟩⟩⟩⟩⟩⟩)
theorem laws_toLimits_ok (k : Nat) (hk : MM < k) (x : D_Limits) (h : Bd T_Limits x) : laws_toLimits x = some ((x, ()), ()) := by
  unfold laws_toLimits
  try simp only [Option.bind_some]
  try rfl
theorem laws_toVec_ok (k : Nat) (hk : MM < k) (x : D_Vec) (h : Bd T_Vec x) : laws_toVec x = some ((x, ()), ()) := by
  unfold laws_toVec
  try simp only [Option.bind_some]
  try rfl
theorem laws_toProf_ok (k : Nat) (hk : MM < k) (x : D_Prof) (h : Bd T_Prof x) : laws_toProf x = some ((x, ()), ()) := by
  unfold laws_toProf
  try simp only [laws_toVec_ok k hk _ h.1, laws_toVec_ok k hk _ h.2.1, Option.bind_some]
  try rfl
theorem laws_toProfS_ok (k : Nat) (hk : MM < k) (x : (List D_Prof)) (h : Bd (.sl T_Prof) x) : laws_toProfS k x = some ((x, ()), ()) := toList_ok (M := MM) (f := laws_toProf) (z := z_Prof) (s := 48) k x h.1 hk (by decide) (by decide) (by decide) (fun e he => laws_toProf_ok k hk e (h.2 e he))
theorem laws_toConf_ok (k : Nat) (hk : MM < k) (x : D_Conf) (h : Bd T_Conf x) : laws_toConf k x = some ((x, ()), ()) := by
  unfold laws_toConf
  try simp only [laws_toLimits_ok k hk _ h.2.2.2.2.2.1, laws_toProfS_ok k hk _ h.2.2.2.2.2.2.1, Option.bind_some]
  try rfl
theorem laws_eqLimits_ok (k : Nat) (hk : MM < k) (x : D_Limits) (h : Bd T_Limits x) : laws_eqLimits x x = some ((true, ()), ()) := by
  unfold laws_eqLimits
  simp
theorem laws_eqVec_ok (k : Nat) (hk : MM < k) (x : D_Vec) (h : Bd T_Vec x) : laws_eqVec x x = some ((true, ()), ()) := by
  unfold laws_eqVec
  simp
theorem laws_eqProf_ok (k : Nat) (hk : MM < k) (x : D_Prof) (h : Bd T_Prof x) : laws_eqProf x x = some ((true, ()), ()) := by
  unfold laws_eqProf
  simp [laws_eqVec_ok k hk _ h.1, laws_eqVec_ok k hk _ h.2.1]
theorem laws_eqProfS_ok (k : Nat) (hk : MM < k) (x : (List D_Prof)) (h : Bd (.sl T_Prof) x) : laws_eqProfS k x x = some ((true, ()), ()) := eqList_ok (M := MM) (f := laws_eqProf) (z := z_Prof) k x h.1 hk (by decide) (fun e he => laws_eqProf_ok k hk e (h.2 e he))
theorem laws_eqConf_ok (k : Nat) (hk : MM < k) (x : D_Conf) (h : Bd T_Conf x) : laws_eqConf k x x = some ((true, ()), ()) := by
  unfold laws_eqConf
  simp [laws_eqLimits_ok k hk _ h.2.2.2.2.2.1, laws_eqProfS_ok k hk _ h.2.2.2.2.2.2.1]
end Go.Tw
