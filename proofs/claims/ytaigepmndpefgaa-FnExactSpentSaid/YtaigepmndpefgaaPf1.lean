/- Plain facts on the mirrors of the functions are proved here. -/
import Derived.Test.YtaigepmndpefgaaMb
import Derived.Test.YtaigepmndpefgaaPf0
set_option linter.all false
namespace Go.Tw
open Go Go.RowKit

theorem laws_szByteS_ok : SzOk MM laws_szByteS (WF (.sl (.int .u8))) (fun x => ((List.length x : Nat) : Int) ≤ MM) := (szFlat_ok (α := Int) (M := MM) (by decide)).imp (fun e h => h.1) (fun e h => h)
theorem laws_szByteS_bd : SzOk MM laws_szByteS (WF (.sl (.int .u8))) (Bd (.sl (.int .u8))) := laws_szByteS_ok.imp (fun e h => h) (fun e h => ⟨h, fun x _ => trivial⟩)
theorem laws_szEvent_bd : SzOk MM (laws_szEvent) (WF T_Event) (Bd T_Event) := (SzOk.bind (p := fun e : D_Event => e.2.2.1) (laws_szByteS_bd) SzOk.ret).imp (fun e h => ⟨h.2.2.1, trivial⟩) (fun e h => ⟨trivial, ⟨trivial, ⟨h.1, ⟨⟨trivial, ⟨trivial, ⟨trivial, trivial⟩⟩⟩, trivial⟩⟩⟩⟩)
theorem laws_szEventS_bd (k : Nat) (hk : MM < k) : SzOk MM (laws_szEventS k) (WF (.sl T_Event)) (Bd (.sl T_Event)) := (szList_ok (f := laws_szEvent) (z := z_Event) (by decide) (laws_szEvent_bd) k hk).imp (fun e h => h) (fun e h => h)
theorem laws_szIntS_ok : SzOk MM laws_szIntS (WF (.sl (.int .i64))) (fun x => ((List.length x : Nat) : Int) ≤ MM) := (szFlat_ok (α := Int) (M := MM) (by decide)).imp (fun e h => h.1) (fun e h => h)
theorem laws_szIntS_bd : SzOk MM laws_szIntS (WF (.sl (.int .i64))) (Bd (.sl (.int .i64))) := laws_szIntS_ok.imp (fun e h => h) (fun e h => ⟨h, fun x _ => trivial⟩)
theorem laws_szOut_bd : SzOk MM (laws_szOut) (WF T_Out) (Bd T_Out) := (SzOk.bind (p := fun e : D_Out => e.2.2.2.1) (laws_szByteS_bd) (SzOk.bind (p := fun e : D_Out => e.2.2.2.2.1) (laws_szIntS_bd) SzOk.ret)).imp (fun e h => ⟨h.2.2.2.1, h.2.2.2.2.1, trivial⟩) (fun e h => ⟨trivial, ⟨trivial, ⟨trivial, ⟨h.1, ⟨h.2.1, trivial⟩⟩⟩⟩⟩)
theorem laws_szOutS_bd (k : Nat) (hk : MM < k) : SzOk MM (laws_szOutS k) (WF (.sl T_Out)) (Bd (.sl T_Out)) := (szList_ok (f := laws_szOut) (z := z_Out) (by decide) (laws_szOut_bd) k hk).imp (fun e h => h) (fun e h => h)
theorem laws_szDeal_bd : SzOk MM (laws_szDeal) (WF T_Deal) (Bd T_Deal) := (SzOk.bind (p := fun e : D_Deal => e.2.2.2.1) (laws_szIntS_bd) SzOk.ret).imp (fun e h => ⟨h.2.2.2.1, trivial⟩) (fun e h => ⟨trivial, ⟨trivial, ⟨⟨trivial, ⟨trivial, ⟨trivial, trivial⟩⟩⟩, ⟨h.1, trivial⟩⟩⟩⟩)
theorem laws_szTreeDeal_bd : SzOk MM (laws_szTreeDeal) (WF T_TreeDeal) (Bd T_TreeDeal) := (SzOk.bind (p := fun e : D_TreeDeal => e.1) (laws_szDeal_bd) (SzOk.bind (p := fun e : D_TreeDeal => e.2.1) (laws_szDeal_bd) SzOk.ret)).imp (fun e h => ⟨h.1, h.2.1, trivial⟩) (fun e h => ⟨h.1, ⟨h.2.1, trivial⟩⟩)
theorem laws_szDealt_bd : SzOk MM (laws_szDealt) (WF T_Dealt) (Bd T_Dealt) := (SzOk.bind (p := fun e : D_Dealt => e.2.2.1) (laws_szTreeDeal_bd) SzOk.ret).imp (fun e h => ⟨h.2.2.1, trivial⟩) (fun e h => ⟨trivial, ⟨⟨trivial, ⟨trivial, ⟨trivial, trivial⟩⟩⟩, ⟨h.1, trivial⟩⟩⟩)
theorem laws_szDealtS_bd (k : Nat) (hk : MM < k) : SzOk MM (laws_szDealtS k) (WF (.sl T_Dealt)) (Bd (.sl T_Dealt)) := (szList_ok (f := laws_szDealt) (z := z_Dealt) (by decide) (laws_szDealt_bd) k hk).imp (fun e h => h) (fun e h => h)
theorem laws_toByteS_ok (k : Nat) (hk : MM < k) (x : (List Int)) (h : Bd (.sl (.int .u8)) x) : laws_toByteS k x = some ((x, ()), ()) := toList_ok (M := MM) (f := fun e => some ((e, ()), ())) (z := (0 : Int)) (s := 1) k x h.1 hk (by decide) (by decide) (by decide) (fun e _ => rfl)
theorem laws_toVec_ok (k : Nat) (hk : MM < k) (x : D_Vec) (h : Bd T_Vec x) : laws_toVec x = some ((x, ()), ()) := by
  unfold laws_toVec
  try simp only [Option.bind_some]
  try rfl
theorem laws_toEvent_ok (k : Nat) (hk : MM < k) (x : D_Event) (h : Bd T_Event x) : laws_toEvent k x = some ((x, ()), ()) := by
  unfold laws_toEvent
  try simp only [laws_toByteS_ok k hk _ h.2.2.1, laws_toVec_ok k hk _ h.2.2.2.1, Option.bind_some]
  try rfl
theorem laws_toEventS_ok (k : Nat) (hk : MM < k) (x : (List D_Event)) (h : Bd (.sl T_Event) x) : laws_toEventS k x = some ((x, ()), ()) := toList_ok (M := MM) (f := laws_toEvent k) (z := z_Event) (s := 64) k x h.1 hk (by decide) (by decide) (by decide) (fun e he => laws_toEvent_ok k hk e (h.2 e he))
theorem laws_toIntS_ok (k : Nat) (hk : MM < k) (x : (List Int)) (h : Bd (.sl (.int .i64)) x) : laws_toIntS k x = some ((x, ()), ()) := toList_ok (M := MM) (f := fun e => some ((e, ()), ())) (z := (0 : Int)) (s := 8) k x h.1 hk (by decide) (by decide) (by decide) (fun e _ => rfl)
theorem laws_toOut_ok (k : Nat) (hk : MM < k) (x : D_Out) (h : Bd T_Out x) : laws_toOut k x = some ((x, ()), ()) := by
  unfold laws_toOut
  try simp only [laws_toByteS_ok k hk _ h.2.2.2.1, laws_toIntS_ok k hk _ h.2.2.2.2.1, Option.bind_some]
  try rfl
theorem laws_toOutS_ok (k : Nat) (hk : MM < k) (x : (List D_Out)) (h : Bd (.sl T_Out) x) : laws_toOutS k x = some ((x, ()), ()) := toList_ok (M := MM) (f := laws_toOut k) (z := z_Out) (s := 72) k x h.1 hk (by decide) (by decide) (by decide) (fun e he => laws_toOut_ok k hk e (h.2 e he))
theorem laws_toDeal_ok (k : Nat) (hk : MM < k) (x : D_Deal) (h : Bd T_Deal x) : laws_toDeal k x = some ((x, ()), ()) := by
  unfold laws_toDeal
  try simp only [laws_toVec_ok k hk _ h.2.2.1, laws_toIntS_ok k hk _ h.2.2.2.1, Option.bind_some]
  try rfl
theorem laws_toTreeDeal_ok (k : Nat) (hk : MM < k) (x : D_TreeDeal) (h : Bd T_TreeDeal x) : laws_toTreeDeal k x = some ((x, ()), ()) := by
  unfold laws_toTreeDeal
  try simp only [laws_toDeal_ok k hk _ h.1, laws_toDeal_ok k hk _ h.2.1, Option.bind_some]
  try rfl
theorem laws_toDealt_ok (k : Nat) (hk : MM < k) (x : D_Dealt) (h : Bd T_Dealt x) : laws_toDealt k x = some ((x, ()), ()) := by
  unfold laws_toDealt
  try simp only [laws_toVec_ok k hk _ h.2.1, laws_toTreeDeal_ok k hk _ h.2.2.1, Option.bind_some]
  try rfl
theorem laws_toDealtS_ok (k : Nat) (hk : MM < k) (x : (List D_Dealt)) (h : Bd (.sl T_Dealt) x) : laws_toDealtS k x = some ((x, ()), ()) := toList_ok (M := MM) (f := laws_toDealt k) (z := z_Dealt) (s := 160) k x h.1 hk (by decide) (by decide) (by decide) (fun e he => laws_toDealt_ok k hk e (h.2 e he))
theorem laws_eqVec_ok (k : Nat) (hk : MM < k) (x : D_Vec) (h : Bd T_Vec x) : laws_eqVec x x = some ((true, ()), ()) := by
  unfold laws_eqVec
  simp
theorem laws_eqByteS_ok (k : Nat) (hk : MM < k) (x : (List Int)) (h : Bd (.sl (.int .u8)) x) : laws_eqByteS k x x = some ((true, ()), ()) := eqList_ok (M := MM) (f := fun a b => some ((decide (a = b), ()), ())) (z := (0 : Int)) k x h.1 hk (by decide) (fun e _ => by simp)
theorem laws_eqEvent_ok (k : Nat) (hk : MM < k) (x : D_Event) (h : Bd T_Event x) : laws_eqEvent k x x = some ((true, ()), ()) := by
  unfold laws_eqEvent
  simp [laws_eqByteS_ok k hk _ h.2.2.1, laws_eqVec_ok k hk _ h.2.2.2.1]
theorem laws_eqEventS_ok (k : Nat) (hk : MM < k) (x : (List D_Event)) (h : Bd (.sl T_Event) x) : laws_eqEventS k x x = some ((true, ()), ()) := eqList_ok (M := MM) (f := laws_eqEvent k) (z := z_Event) k x h.1 hk (by decide) (fun e he => laws_eqEvent_ok k hk e (h.2 e he))
theorem laws_eqIntS_ok (k : Nat) (hk : MM < k) (x : (List Int)) (h : Bd (.sl (.int .i64)) x) : laws_eqIntS k x x = some ((true, ()), ()) := eqList_ok (M := MM) (f := fun a b => some ((decide (a = b), ()), ())) (z := (0 : Int)) k x h.1 hk (by decide) (fun e _ => by simp)
theorem laws_eqOut_ok (k : Nat) (hk : MM < k) (x : D_Out) (h : Bd T_Out x) : laws_eqOut k x x = some ((true, ()), ()) := by
  unfold laws_eqOut
  simp [laws_eqByteS_ok k hk _ h.2.2.2.1, laws_eqIntS_ok k hk _ h.2.2.2.2.1]
theorem laws_eqOutS_ok (k : Nat) (hk : MM < k) (x : (List D_Out)) (h : Bd (.sl T_Out) x) : laws_eqOutS k x x = some ((true, ()), ()) := eqList_ok (M := MM) (f := laws_eqOut k) (z := z_Out) k x h.1 hk (by decide) (fun e he => laws_eqOut_ok k hk e (h.2 e he))
theorem laws_eqDeal_ok (k : Nat) (hk : MM < k) (x : D_Deal) (h : Bd T_Deal x) : laws_eqDeal k x x = some ((true, ()), ()) := by
  unfold laws_eqDeal
  simp [laws_eqVec_ok k hk _ h.2.2.1, laws_eqIntS_ok k hk _ h.2.2.2.1]
theorem laws_eqTreeDeal_ok (k : Nat) (hk : MM < k) (x : D_TreeDeal) (h : Bd T_TreeDeal x) : laws_eqTreeDeal k x x = some ((true, ()), ()) := by
  unfold laws_eqTreeDeal
  simp [laws_eqDeal_ok k hk _ h.1, laws_eqDeal_ok k hk _ h.2.1]
theorem laws_eqDealt_ok (k : Nat) (hk : MM < k) (x : D_Dealt) (h : Bd T_Dealt x) : laws_eqDealt k x x = some ((true, ()), ()) := by
  unfold laws_eqDealt
  simp [laws_eqVec_ok k hk _ h.2.1, laws_eqTreeDeal_ok k hk _ h.2.2.1]
theorem laws_eqDealtS_ok (k : Nat) (hk : MM < k) (x : (List D_Dealt)) (h : Bd (.sl T_Dealt) x) : laws_eqDealtS k x x = some ((true, ()), ()) := eqList_ok (M := MM) (f := laws_eqDealt k) (z := z_Dealt) k x h.1 hk (by decide) (fun e he => laws_eqDealt_ok k hk e (h.2 e he))
end Go.Tw
