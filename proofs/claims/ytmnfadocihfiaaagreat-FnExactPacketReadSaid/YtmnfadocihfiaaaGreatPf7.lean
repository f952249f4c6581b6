/- Plain facts on the mirrors of the functions are proved here. -/
import Derived.Test.YtmnfadocihfiaaaGreatMr
import Derived.Test.YtmnfadocihfiaaaGreatPf0
set_option linter.all false
namespace Go.Tw
open Go Go.RowKit

theorem laws_toByteS_ok (k : Nat) (hk : MM < k) (x : (List Int)) (h : Bd (.sl (.int .u8)) x) : laws_toByteS k x = some ((x, ()), ()) := toList_ok (M := MM) (f := fun e => some ((e, ()), ())) (z := (0 : Int)) (s := 1) k x h.1 hk (by decide) (by decide) (by decide) (fun e _ => rfl)
theorem laws_eqByteS_ok (k : Nat) (hk : MM < k) (x : (List Int)) (h : Bd (.sl (.int .u8)) x) : laws_eqByteS k x x = some ((true, ()), ()) := eqList_ok (M := MM) (f := fun a b => some ((decide (a = b), ()), ())) (z := (0 : Int)) k x h.1 hk (by decide) (fun e _ => by simp)
theorem laws_eqEther_ok (k : Nat) (hk : MM < k) (x : D_Ether) (h : Bd T_Ether x) : laws_eqEther k x x = some ((true, ()), ()) := by
  unfold laws_eqEther
  simp [laws_eqByteS_ok k hk _ h.2.2.2.2.1]
theorem laws_eqAddr_ok (k : Nat) (hk : MM < k) (x : D_Addr) (h : Bd T_Addr x) : laws_eqAddr x x = some ((true, ()), ()) := by
  unfold laws_eqAddr
  simp
theorem laws_eqFour_ok (k : Nat) (hk : MM < k) (x : D_Four) (h : Bd T_Four x) : laws_eqFour k x x = some ((true, ()), ()) := by
  unfold laws_eqFour
  simp [laws_eqAddr_ok k hk _ h.2.2.2.2.2.2.2.1, laws_eqAddr_ok k hk _ h.2.2.2.2.2.2.2.2.1, laws_eqByteS_ok k hk _ h.2.2.2.2.2.2.2.2.2.1, laws_eqByteS_ok k hk _ h.2.2.2.2.2.2.2.2.2.2.1]
theorem laws_eqExt_ok (k : Nat) (hk : MM < k) (x : D_Ext) (h : Bd T_Ext x) : laws_eqExt k x x = some ((true, ()), ()) := by
  unfold laws_eqExt
  simp [laws_eqByteS_ok k hk _ h.2.1]
theorem laws_eqExtS_ok (k : Nat) (hk : MM < k) (x : (List D_Ext)) (h : Bd (.sl T_Ext) x) : laws_eqExtS k x x = some ((true, ()), ()) := eqList_ok (M := MM) (f := laws_eqExt k) (z := z_Ext) k x h.1 hk (by decide) (fun e he => laws_eqExt_ok k hk e (h.2 e he))
theorem laws_eqSix_ok (k : Nat) (hk : MM < k) (x : D_Six) (h : Bd T_Six x) : laws_eqSix k x x = some ((true, ()), ()) := by
  unfold laws_eqSix
  simp [laws_eqAddr_ok k hk _ h.2.2.2.2.1, laws_eqAddr_ok k hk _ h.2.2.2.2.2.1, laws_eqExtS_ok k hk _ h.2.2.2.2.2.2.1, laws_eqByteS_ok k hk _ h.2.2.2.2.2.2.2.1]
theorem laws_eqUpper_ok (k : Nat) (hk : MM < k) (x : D_Upper) (h : Bd T_Upper x) : laws_eqUpper k x x = some ((true, ()), ()) := by
  unfold laws_eqUpper
  simp [laws_eqByteS_ok k hk _ h.2.2.2.2.2.2.2.2.2.2.2.2.1, laws_eqByteS_ok k hk _ h.2.2.2.2.2.2.2.2.2.2.2.2.2.1]
theorem laws_eqPacket_ok (k : Nat) (hk : MM < k) (x : D_Packet) (h : Bd T_Packet x) : laws_eqPacket k x x = some ((true, ()), ()) := by
  unfold laws_eqPacket
  simp [laws_eqEther_ok k hk _ h.2.1, laws_eqFour_ok k hk _ h.2.2.1, laws_eqSix_ok k hk _ h.2.2.2.1, laws_eqUpper_ok k hk _ h.2.2.2.2.1, laws_eqByteS_ok k hk _ h.2.2.2.2.2.1]
end Go.Tw
