/- Plain facts on the mirrors of the functions are proved here. -/
import Derived.Test.YtaigepmndpefgaaMe
import Derived.Test.YtaigepmndpefgaaPf0
set_option linter.all false
namespace Go.Tw
open Go Go.RowKit

theorem laws_szByteS_ok : SzOk MM laws_szByteS (WF (.sl (.int .u8))) (fun x => ((List.length x : Nat) : Int) ≤ MM) := (szFlat_ok (α := Int) (M := MM) (by decide)).imp (fun e h => h.1) (fun e h => h)
theorem laws_szByteS_bd : SzOk MM laws_szByteS (WF (.sl (.int .u8))) (Bd (.sl (.int .u8))) := laws_szByteS_ok.imp (fun e h => h) (fun e h => ⟨h, fun x _ => trivial⟩)
theorem laws_szIntS_ok : SzOk MM laws_szIntS (WF (.sl (.int .i64))) (fun x => ((List.length x : Nat) : Int) ≤ MM) := (szFlat_ok (α := Int) (M := MM) (by decide)).imp (fun e h => h.1) (fun e h => h)
theorem laws_szIntS_bd : SzOk MM laws_szIntS (WF (.sl (.int .i64))) (Bd (.sl (.int .i64))) := laws_szIntS_ok.imp (fun e h => h) (fun e h => ⟨h, fun x _ => trivial⟩)
theorem laws_szOut_bd : SzOk MM (laws_szOut) (WF T_Out) (Bd T_Out) := (SzOk.bind (p := fun e : D_Out => e.2.2.2.1) (laws_szByteS_bd) (SzOk.bind (p := fun e : D_Out => e.2.2.2.2.1) (laws_szIntS_bd) SzOk.ret)).imp (fun e h => ⟨h.2.2.2.1, h.2.2.2.2.1, trivial⟩) (fun e h => ⟨trivial, ⟨trivial, ⟨trivial, ⟨h.1, ⟨h.2.1, trivial⟩⟩⟩⟩⟩)
theorem laws_szOutS_bd (k : Nat) (hk : MM < k) : SzOk MM (laws_szOutS k) (WF (.sl T_Out)) (Bd (.sl T_Out)) := (szList_ok (f := laws_szOut) (z := z_Out) (by decide) (laws_szOut_bd) k hk).imp (fun e h => h) (fun e h => h)
theorem laws_szLeft_bd : SzOk MM (laws_szLeft) (WF T_Left) (Bd T_Left) := (SzOk.bind (p := fun e : D_Left => e.2.1) (laws_szIntS_bd) (SzOk.bind (p := fun e : D_Left => e.2.2.1) (laws_szIntS_bd) SzOk.ret)).imp (fun e h => ⟨h.2.1, h.2.2.1, trivial⟩) (fun e h => ⟨trivial, ⟨h.1, ⟨h.2.1, ⟨trivial, ⟨trivial, trivial⟩⟩⟩⟩⟩)
theorem laws_toByteS_ok (k : Nat) (hk : MM < k) (x : (List Int)) (h : Bd (.sl (.int .u8)) x) : laws_toByteS k x = some ((x, ()), ()) := toList_ok (M := MM) (f := fun e => some ((e, ()), ())) (z := (0 : Int)) (s := 1) k x h.1 hk (by decide) (by decide) (by decide) (fun e _ => rfl)
theorem laws_toIntS_ok (k : Nat) (hk : MM < k) (x : (List Int)) (h : Bd (.sl (.int .i64)) x) : laws_toIntS k x = some ((x, ()), ()) := toList_ok (M := MM) (f := fun e => some ((e, ()), ())) (z := (0 : Int)) (s := 8) k x h.1 hk (by decide) (by decide) (by decide) (fun e _ => rfl)
theorem laws_toOut_ok (k : Nat) (hk : MM < k) (x : D_Out) (h : Bd T_Out x) : laws_toOut k x = some ((x, ()), ()) := by
  unfold laws_toOut
  try simp only [laws_toByteS_ok k hk _ h.2.2.2.1, laws_toIntS_ok k hk _ h.2.2.2.2.1, Option.bind_some]
  try rfl
theorem laws_toOutS_ok (k : Nat) (hk : MM < k) (x : (List D_Out)) (h : Bd (.sl T_Out) x) : laws_toOutS k x = some ((x, ()), ()) := toList_ok (M := MM) (f := laws_toOut k) (z := z_Out) (s := 72) k x h.1 hk (by decide) (by decide) (by decide) (fun e he => laws_toOut_ok k hk e (h.2 e he))
theorem laws_toLeft_ok (k : Nat) (hk : MM < k) (x : D_Left) (h : Bd T_Left x) : laws_toLeft k x = some ((x, ()), ()) := by
  unfold laws_toLeft
  try simp only [laws_toIntS_ok k hk _ h.2.1, laws_toIntS_ok k hk _ h.2.2.1, Option.bind_some]
  try rfl
theorem laws_eqByteS_ok (k : Nat) (hk : MM < k) (x : (List Int)) (h : Bd (.sl (.int .u8)) x) : laws_eqByteS k x x = some ((true, ()), ()) := eqList_ok (M := MM) (f := fun a b => some ((decide (a = b), ()), ())) (z := (0 : Int)) k x h.1 hk (by decide) (fun e _ => by simp)
theorem laws_eqIntS_ok (k : Nat) (hk : MM < k) (x : (List Int)) (h : Bd (.sl (.int .i64)) x) : laws_eqIntS k x x = some ((true, ()), ()) := eqList_ok (M := MM) (f := fun a b => some ((decide (a = b), ()), ())) (z := (0 : Int)) k x h.1 hk (by decide) (fun e _ => by simp)
theorem laws_eqOut_ok (k : Nat) (hk : MM < k) (x : D_Out) (h : Bd T_Out x) : laws_eqOut k x x = some ((true, ()), ()) := by
  unfold laws_eqOut
  simp [laws_eqByteS_ok k hk _ h.2.2.2.1, laws_eqIntS_ok k hk _ h.2.2.2.2.1]
theorem laws_eqOutS_ok (k : Nat) (hk : MM < k) (x : (List D_Out)) (h : Bd (.sl T_Out) x) : laws_eqOutS k x x = some ((true, ()), ()) := eqList_ok (M := MM) (f := laws_eqOut k) (z := z_Out) k x h.1 hk (by decide) (fun e he => laws_eqOut_ok k hk e (h.2 e he))
theorem laws_eqLeft_ok (k : Nat) (hk : MM < k) (x : D_Left) (h : Bd T_Left x) : laws_eqLeft k x x = some ((true, ()), ()) := by
  unfold laws_eqLeft
  simp [laws_eqIntS_ok k hk _ h.2.1, laws_eqIntS_ok k hk _ h.2.2.1]
end Go.Tw
