/- The mirrors of the functions as plain definitions, by which proofs go on. -/
import Derived.Test.YtmnfadocihfiaaaGreatT23
set_option linter.all false
namespace Go.Tw
open Go Go.RowKit
abbrev T_Vec : Ty := (.pr (.int .i64) (.pr (.int .i64) (.pr (.int .i64) .un)))
abbrev D_Vec := (Int × (Int × (Int × Unit)))
def z_Vec : D_Vec := ((0:Int), ((0:Int), ((0:Int), ())))
abbrev T_Event : Ty := (.pr (.int .i64) (.pr (.int .i64) (.pr (.sl (.int .u8)) (.pr T_Vec .un))))
abbrev D_Event := (Int × (Int × ((List Int) × (D_Vec × Unit))))
def z_Event : D_Event := ((0:Int), ((0:Int), ([], (z_Vec, ()))))
abbrev T_cursor : Ty := (.pr (.sl (.int .u8)) .un)
abbrev D_cursor := ((List Int) × Unit)
def z_cursor : D_cursor := ([], ())
abbrev T_Addr : Ty := (.pr (.int .i64) (.pr (.int .i64) T_Vec))
abbrev D_Addr := (Int × (Int × D_Vec))
def z_Addr : D_Addr := ((0:Int), ((0:Int), z_Vec))
abbrev T_Prefix : Ty := (.pr T_Addr (.pr (.int .i64) .un))
abbrev D_Prefix := (D_Addr × (Int × Unit))
def z_Prefix : D_Prefix := (z_Addr, ((0:Int), ()))
abbrev T_Rule : Ty := (.pr (.int .i64) (.pr T_Prefix (.pr T_Prefix (.pr (.int .i64) (.pr (.int .i64) (.pr (.int .i64) T_Addr))))))
abbrev D_Rule := (Int × (D_Prefix × (D_Prefix × (Int × (Int × (Int × D_Addr))))))
def z_Rule : D_Rule := ((0:Int), (z_Prefix, (z_Prefix, ((0:Int), ((0:Int), ((0:Int), z_Addr))))))
abbrev T_Limits : Ty := (.pr (.int .i64) (.pr (.int .i64) (.pr (.int .i64) (.pr (.int .i64) (.pr .bool .un)))))
abbrev D_Limits := (Int × (Int × (Int × (Int × (Bool × Unit)))))
def z_Limits : D_Limits := ((0:Int), ((0:Int), ((0:Int), ((0:Int), (false, ())))))
abbrev T_Module : Ty := (.pr (.int .i64) (.pr T_Prefix (.pr T_Prefix (.pr (.int .i64) T_Vec))))
abbrev D_Module := (Int × (D_Prefix × (D_Prefix × (Int × D_Vec))))
def z_Module : D_Module := ((0:Int), (z_Prefix, (z_Prefix, ((0:Int), z_Vec))))
abbrev T_Cmd : Ty := (.pr (.int .i64) (.pr (.int .i64) (.pr (.int .i64) (.pr T_Rule (.pr T_Limits (.pr (.sl T_Module) .un))))))
abbrev D_Cmd := (Int × (Int × (Int × (D_Rule × (D_Limits × ((List D_Module) × Unit))))))
def z_Cmd : D_Cmd := ((0:Int), ((0:Int), ((0:Int), (z_Rule, (z_Limits, ([], ()))))))
abbrev T_l22Read : Ty := (.pr (.sl (.int .u8)) (.pr (.int .i64) (.pr .bool .un)))
abbrev D_l22Read := ((List Int) × (Int × (Bool × Unit)))
def z_l22Read : D_l22Read := ([], ((0:Int), (false, ())))
abbrev zzR : D_Rule := ((0:Int), (((0:Int), (0:Int), (0:Int), (0:Int), (0:Int), ()), (0:Int), ()), (((0:Int), (0:Int), (0:Int), (0:Int), (0:Int), ()), (0:Int), ()), (0:Int), (0:Int), (0:Int), (0:Int), (0:Int), (0:Int), (0:Int), (0:Int), ())
abbrev zzC : D_Cmd := ((0:Int), (0:Int), (0:Int), zzR, ((0:Int), (0:Int), (0:Int), (0:Int), false, ()), ([] : List D_Module), ())
def laws_szByteS (x0 : (List Int)) (x1 : Int) : Option ((Int × Unit) × Unit) :=
 bif (decide ((IntKind.wrap .i64 (x1 - (((List.length x0) : Nat) : Int))) < (0:Int))) then
 some (((-1 : Int), ()), ())
 else
 some (((IntKind.wrap .i64 (x1 - (((List.length x0) : Nat) : Int))), ()), ())
def laws_szEvent (x0 : D_Event) (x1 : Int) : Option ((Int × Unit) × Unit) :=
 (laws_szByteS x0.2.2.1 x1).bind fun t1 =>
 bif (decide (t1.1.1 < (0:Int))) then
 some (((-1 : Int), ()), ())
 else
 some (t1.1, ())
def laws_szEventS_s5 (rec : (Unit × ((List D_Event) × (Int × (Int × Unit)))) → Option ((Unit × (Int × Unit)) ⊕ (Unit × (Int × Unit)))) (v : (Unit × ((List D_Event) × (Int × (Int × Unit))))) : Option ((Unit × (Int × Unit)) ⊕ (Unit × (Int × Unit))) :=
 bif (decide (v.2.2.2.1 < (((List.length v.2.1) : Nat) : Int))) then
 bif ((decide ((0:Int) ≤ v.2.2.2.1)) && (decide (v.2.2.2.1 < (((List.length v.2.1) : Nat) : Int)))) then
 bif (decide ((Int.toNat v.2.2.2.1) < (List.length v.2.1))) then
 (laws_szEvent (List.getD v.2.1 (Int.toNat v.2.2.2.1) z_Event) v.2.2.1).bind fun t1 =>
 bif (decide (t1.1.1 < (0:Int))) then
 some (Sum.inl ((), (-1 : Int), ()))
 else
 rec ((), v.2.1, t1.1.1, (IntKind.wrap .i64 (v.2.2.2.1 + (1:Int))), ())
 else none
 else none
 else
 some (Sum.inr ((), v.2.2.1, ()))
def laws_szEventS (k : Nat) (x0 : (List D_Event)) (x1 : Int) : Option ((Int × Unit) × Unit) :=
 bif (decide ((IntKind.wrap .i64 (x1 - (((List.length x0) : Nat) : Int))) < (0:Int))) then
 some (((-1 : Int), ()), ())
 else
 (iter (laws_szEventS_s5) k ((), x0, (IntKind.wrap .i64 (x1 - (((List.length x0) : Nat) : Int))), (0:Int), ())).bind fun o1 =>
 Sum.elim (fun a2 =>
 some (a2.2, ()))
 (fun b3 =>
 some (b3.2, ())) o1
def laws_toByteS_s3 (rec : (Unit × ((List Int) × ((List Int) × (Int × Unit)))) → Option ((Unit × D_cursor))) (v : (Unit × ((List Int) × ((List Int) × (Int × Unit))))) : Option ((Unit × D_cursor)) :=
 bif (decide (v.2.2.2.1 < (((List.length v.2.1) : Nat) : Int))) then
 bif ((decide ((0:Int) ≤ v.2.2.2.1)) && (decide (v.2.2.2.1 < (((List.length v.2.1) : Nat) : Int)))) then
 bif (decide ((Int.toNat v.2.2.2.1) < (List.length v.2.1))) then
 bif ((decide ((0:Int) ≤ v.2.2.2.1)) && (decide (v.2.2.2.1 < (((List.length v.2.2.1) : Nat) : Int)))) then
 bif (decide ((Int.toNat v.2.2.2.1) < (List.length v.2.2.1))) then
 let y1 : (List Int) := (List.set v.2.2.1 (Int.toNat v.2.2.2.1) (List.getD v.2.1 (Int.toNat v.2.2.2.1) (0:Int)))
 rec ((), v.2.1, y1, (IntKind.wrap .i64 (v.2.2.2.1 + (1:Int))), ())
 else none
 else none
 else none
 else none
 else
 some ((), v.2.2.1, ())
def laws_toByteS (k : Nat) (x0 : (List Int)) : Option (D_cursor × Unit) :=
 bif (((decide ((0:Int) ≤ (((List.length x0) : Nat) : Int))) && (decide ((((List.length x0) : Nat) : Int) ≤ (((List.length x0) : Nat) : Int)))) && (decide (((1:Int) * (((List.length x0) : Nat) : Int)) ≤ (1099511627776:Int)))) then
 (iter (laws_toByteS_s3) k ((), x0, (List.replicate (List.length x0) (0:Int)), (0:Int), ())).bind fun o1 =>
 some (o1.2, ())
 else none
def laws_toVec (x0 : D_Vec) : Option ((D_Vec × Unit) × Unit) :=
 some ((x0, ()), ())
def laws_toEvent (k : Nat) (x0 : D_Event) : Option ((D_Event × Unit) × Unit) :=
 (laws_toByteS k x0.2.2.1).bind fun t1 =>
 (laws_toVec x0.2.2.2.1).bind fun t2 =>
 some (((x0.1, x0.2.1, t1.1.1, t2.1), ()), ())
def laws_toEventS_s3 (k : Nat) (rec : (Unit × ((List D_Event) × ((List D_Event) × (Int × Unit)))) → Option ((Unit × ((List D_Event) × Unit)))) (v : (Unit × ((List D_Event) × ((List D_Event) × (Int × Unit))))) : Option ((Unit × ((List D_Event) × Unit))) :=
 bif (decide (v.2.2.2.1 < (((List.length v.2.1) : Nat) : Int))) then
 bif ((decide ((0:Int) ≤ v.2.2.2.1)) && (decide (v.2.2.2.1 < (((List.length v.2.1) : Nat) : Int)))) then
 bif (decide ((Int.toNat v.2.2.2.1) < (List.length v.2.1))) then
 (laws_toEvent k (List.getD v.2.1 (Int.toNat v.2.2.2.1) z_Event)).bind fun t1 =>
 bif ((decide ((0:Int) ≤ v.2.2.2.1)) && (decide (v.2.2.2.1 < (((List.length v.2.2.1) : Nat) : Int)))) then
 bif (decide ((Int.toNat v.2.2.2.1) < (List.length v.2.2.1))) then
 let y2 : (List D_Event) := (List.set v.2.2.1 (Int.toNat v.2.2.2.1) t1.1.1)
 rec ((), v.2.1, y2, (IntKind.wrap .i64 (v.2.2.2.1 + (1:Int))), ())
 else none
 else none
 else none
 else none
 else
 some ((), v.2.2.1, ())
def laws_toEventS (k : Nat) (x0 : (List D_Event)) : Option (((List D_Event) × Unit) × Unit) :=
 bif (((decide ((0:Int) ≤ (((List.length x0) : Nat) : Int))) && (decide ((((List.length x0) : Nat) : Int) ≤ (((List.length x0) : Nat) : Int)))) && (decide (((64:Int) * (((List.length x0) : Nat) : Int)) ≤ (1099511627776:Int)))) then
 (iter (laws_toEventS_s3 k) k ((), x0, (List.replicate (List.length x0) ((0:Int), (0:Int), ([] : List Int), ((0:Int), (0:Int), (0:Int), ()), ())), (0:Int), ())).bind fun o1 =>
 some (o1.2, ())
 else none
def spec_EventsOk_s5 (rec : (Unit × ((List D_Event) × (Int × (Int × Unit)))) → Option ((Unit × (Bool × Unit)) ⊕ (Unit × Unit))) (v : (Unit × ((List D_Event) × (Int × (Int × Unit))))) : Option ((Unit × (Bool × Unit)) ⊕ (Unit × Unit)) :=
 bif (decide (v.2.2.2.1 < (((List.length v.2.1) : Nat) : Int))) then
 bif ((decide ((0:Int) ≤ v.2.2.2.1)) && (decide (v.2.2.2.1 < (((List.length v.2.1) : Nat) : Int)))) then
 bif (decide ((Int.toNat v.2.2.2.1) < (List.length v.2.1))) then
 bif (!(decide ((List.getD v.2.1 (Int.toNat v.2.2.2.1) z_Event).1 < (1:Int)))) then
 bif (!(decide ((4:Int) < (List.getD v.2.1 (Int.toNat v.2.2.2.1) z_Event).1))) then
 bif (decide ((2000:Int) < (((List.length (List.getD v.2.1 (Int.toNat v.2.2.2.1) z_Event).2.2.1) : Nat) : Int))) then
 some (Sum.inl ((), false, ()))
 else
 bif (!(decide ((List.getD v.2.1 (Int.toNat v.2.2.2.1) z_Event).1 = (2:Int)))) then
 bif (!(!(decide ((List.getD v.2.1 (Int.toNat v.2.2.2.1) z_Event).2.1 = (0:Int))))) then
 bif (decide ((List.getD v.2.1 (Int.toNat v.2.2.2.1) z_Event).1 = (2:Int))) then
 bif (!(decide ((List.getD v.2.1 (Int.toNat v.2.2.2.1) z_Event).2.1 < (1:Int)))) then
 bif (decide (v.2.2.1 < (List.getD v.2.1 (Int.toNat v.2.2.2.1) z_Event).2.1)) then
 some (Sum.inl ((), false, ()))
 else
 bif (!(decide ((List.getD v.2.1 (Int.toNat v.2.2.2.1) z_Event).1 = (1:Int)))) then
 bif (!(!((decide ((List.getD v.2.1 (Int.toNat v.2.2.2.1) z_Event).2.2.2.1.1 = (0:Int))) && ((decide ((List.getD v.2.1 (Int.toNat v.2.2.2.1) z_Event).2.2.2.1.2.1 = (0:Int))) && ((decide ((List.getD v.2.1 (Int.toNat v.2.2.2.1) z_Event).2.2.2.1.2.2.1 = (0:Int))) && true))))) then
 bif (!(decide ((List.getD v.2.1 (Int.toNat v.2.2.2.1) z_Event).1 = (2:Int)))) then
 bif (decide ((List.getD v.2.1 (Int.toNat v.2.2.2.1) z_Event).1 = (4:Int))) then
 bif (decide ((0:Int) < (((List.length (List.getD v.2.1 (Int.toNat v.2.2.2.1) z_Event).2.2.1) : Nat) : Int))) then
 some (Sum.inl ((), false, ()))
 else
 rec ((), v.2.1, (IntKind.wrap .i64 (v.2.2.1 - (List.getD v.2.1 (Int.toNat v.2.2.2.1) z_Event).2.1)), (IntKind.wrap .i64 (v.2.2.2.1 + (1:Int))), ())
 else
 rec ((), v.2.1, (IntKind.wrap .i64 (v.2.2.1 - (List.getD v.2.1 (Int.toNat v.2.2.2.1) z_Event).2.1)), (IntKind.wrap .i64 (v.2.2.2.1 + (1:Int))), ())
 else
 bif (decide ((0:Int) < (((List.length (List.getD v.2.1 (Int.toNat v.2.2.2.1) z_Event).2.2.1) : Nat) : Int))) then
 some (Sum.inl ((), false, ()))
 else
 rec ((), v.2.1, (IntKind.wrap .i64 (v.2.2.1 - (List.getD v.2.1 (Int.toNat v.2.2.2.1) z_Event).2.1)), (IntKind.wrap .i64 (v.2.2.2.1 + (1:Int))), ())
 else
 some (Sum.inl ((), false, ()))
 else
 bif (!(decide ((List.getD v.2.1 (Int.toNat v.2.2.2.1) z_Event).1 = (2:Int)))) then
 bif (decide ((List.getD v.2.1 (Int.toNat v.2.2.2.1) z_Event).1 = (4:Int))) then
 bif (decide ((0:Int) < (((List.length (List.getD v.2.1 (Int.toNat v.2.2.2.1) z_Event).2.2.1) : Nat) : Int))) then
 some (Sum.inl ((), false, ()))
 else
 rec ((), v.2.1, (IntKind.wrap .i64 (v.2.2.1 - (List.getD v.2.1 (Int.toNat v.2.2.2.1) z_Event).2.1)), (IntKind.wrap .i64 (v.2.2.2.1 + (1:Int))), ())
 else
 rec ((), v.2.1, (IntKind.wrap .i64 (v.2.2.1 - (List.getD v.2.1 (Int.toNat v.2.2.2.1) z_Event).2.1)), (IntKind.wrap .i64 (v.2.2.2.1 + (1:Int))), ())
 else
 bif (decide ((0:Int) < (((List.length (List.getD v.2.1 (Int.toNat v.2.2.2.1) z_Event).2.2.1) : Nat) : Int))) then
 some (Sum.inl ((), false, ()))
 else
 rec ((), v.2.1, (IntKind.wrap .i64 (v.2.2.1 - (List.getD v.2.1 (Int.toNat v.2.2.2.1) z_Event).2.1)), (IntKind.wrap .i64 (v.2.2.2.1 + (1:Int))), ())
 else
 some (Sum.inl ((), false, ()))
 else
 bif (!(decide ((List.getD v.2.1 (Int.toNat v.2.2.2.1) z_Event).1 = (1:Int)))) then
 bif (!(!((decide ((List.getD v.2.1 (Int.toNat v.2.2.2.1) z_Event).2.2.2.1.1 = (0:Int))) && ((decide ((List.getD v.2.1 (Int.toNat v.2.2.2.1) z_Event).2.2.2.1.2.1 = (0:Int))) && ((decide ((List.getD v.2.1 (Int.toNat v.2.2.2.1) z_Event).2.2.2.1.2.2.1 = (0:Int))) && true))))) then
 bif (!(decide ((List.getD v.2.1 (Int.toNat v.2.2.2.1) z_Event).1 = (2:Int)))) then
 bif (decide ((List.getD v.2.1 (Int.toNat v.2.2.2.1) z_Event).1 = (4:Int))) then
 bif (decide ((0:Int) < (((List.length (List.getD v.2.1 (Int.toNat v.2.2.2.1) z_Event).2.2.1) : Nat) : Int))) then
 some (Sum.inl ((), false, ()))
 else
 rec ((), v.2.1, (IntKind.wrap .i64 (v.2.2.1 - (List.getD v.2.1 (Int.toNat v.2.2.2.1) z_Event).2.1)), (IntKind.wrap .i64 (v.2.2.2.1 + (1:Int))), ())
 else
 rec ((), v.2.1, (IntKind.wrap .i64 (v.2.2.1 - (List.getD v.2.1 (Int.toNat v.2.2.2.1) z_Event).2.1)), (IntKind.wrap .i64 (v.2.2.2.1 + (1:Int))), ())
 else
 bif (decide ((0:Int) < (((List.length (List.getD v.2.1 (Int.toNat v.2.2.2.1) z_Event).2.2.1) : Nat) : Int))) then
 some (Sum.inl ((), false, ()))
 else
 rec ((), v.2.1, (IntKind.wrap .i64 (v.2.2.1 - (List.getD v.2.1 (Int.toNat v.2.2.2.1) z_Event).2.1)), (IntKind.wrap .i64 (v.2.2.2.1 + (1:Int))), ())
 else
 some (Sum.inl ((), false, ()))
 else
 bif (!(decide ((List.getD v.2.1 (Int.toNat v.2.2.2.1) z_Event).1 = (2:Int)))) then
 bif (decide ((List.getD v.2.1 (Int.toNat v.2.2.2.1) z_Event).1 = (4:Int))) then
 bif (decide ((0:Int) < (((List.length (List.getD v.2.1 (Int.toNat v.2.2.2.1) z_Event).2.2.1) : Nat) : Int))) then
 some (Sum.inl ((), false, ()))
 else
 rec ((), v.2.1, (IntKind.wrap .i64 (v.2.2.1 - (List.getD v.2.1 (Int.toNat v.2.2.2.1) z_Event).2.1)), (IntKind.wrap .i64 (v.2.2.2.1 + (1:Int))), ())
 else
 rec ((), v.2.1, (IntKind.wrap .i64 (v.2.2.1 - (List.getD v.2.1 (Int.toNat v.2.2.2.1) z_Event).2.1)), (IntKind.wrap .i64 (v.2.2.2.1 + (1:Int))), ())
 else
 bif (decide ((0:Int) < (((List.length (List.getD v.2.1 (Int.toNat v.2.2.2.1) z_Event).2.2.1) : Nat) : Int))) then
 some (Sum.inl ((), false, ()))
 else
 rec ((), v.2.1, (IntKind.wrap .i64 (v.2.2.1 - (List.getD v.2.1 (Int.toNat v.2.2.2.1) z_Event).2.1)), (IntKind.wrap .i64 (v.2.2.2.1 + (1:Int))), ())
 else
 some (Sum.inl ((), false, ()))
 else
 bif (decide ((List.getD v.2.1 (Int.toNat v.2.2.2.1) z_Event).1 = (2:Int))) then
 bif (!(decide ((List.getD v.2.1 (Int.toNat v.2.2.2.1) z_Event).2.1 < (1:Int)))) then
 bif (decide (v.2.2.1 < (List.getD v.2.1 (Int.toNat v.2.2.2.1) z_Event).2.1)) then
 some (Sum.inl ((), false, ()))
 else
 bif (!(decide ((List.getD v.2.1 (Int.toNat v.2.2.2.1) z_Event).1 = (1:Int)))) then
 bif (!(!((decide ((List.getD v.2.1 (Int.toNat v.2.2.2.1) z_Event).2.2.2.1.1 = (0:Int))) && ((decide ((List.getD v.2.1 (Int.toNat v.2.2.2.1) z_Event).2.2.2.1.2.1 = (0:Int))) && ((decide ((List.getD v.2.1 (Int.toNat v.2.2.2.1) z_Event).2.2.2.1.2.2.1 = (0:Int))) && true))))) then
 bif (!(decide ((List.getD v.2.1 (Int.toNat v.2.2.2.1) z_Event).1 = (2:Int)))) then
 bif (decide ((List.getD v.2.1 (Int.toNat v.2.2.2.1) z_Event).1 = (4:Int))) then
 bif (decide ((0:Int) < (((List.length (List.getD v.2.1 (Int.toNat v.2.2.2.1) z_Event).2.2.1) : Nat) : Int))) then
 some (Sum.inl ((), false, ()))
 else
 rec ((), v.2.1, (IntKind.wrap .i64 (v.2.2.1 - (List.getD v.2.1 (Int.toNat v.2.2.2.1) z_Event).2.1)), (IntKind.wrap .i64 (v.2.2.2.1 + (1:Int))), ())
 else
 rec ((), v.2.1, (IntKind.wrap .i64 (v.2.2.1 - (List.getD v.2.1 (Int.toNat v.2.2.2.1) z_Event).2.1)), (IntKind.wrap .i64 (v.2.2.2.1 + (1:Int))), ())
 else
 bif (decide ((0:Int) < (((List.length (List.getD v.2.1 (Int.toNat v.2.2.2.1) z_Event).2.2.1) : Nat) : Int))) then
 some (Sum.inl ((), false, ()))
 else
 rec ((), v.2.1, (IntKind.wrap .i64 (v.2.2.1 - (List.getD v.2.1 (Int.toNat v.2.2.2.1) z_Event).2.1)), (IntKind.wrap .i64 (v.2.2.2.1 + (1:Int))), ())
 else
 some (Sum.inl ((), false, ()))
 else
 bif (!(decide ((List.getD v.2.1 (Int.toNat v.2.2.2.1) z_Event).1 = (2:Int)))) then
 bif (decide ((List.getD v.2.1 (Int.toNat v.2.2.2.1) z_Event).1 = (4:Int))) then
 bif (decide ((0:Int) < (((List.length (List.getD v.2.1 (Int.toNat v.2.2.2.1) z_Event).2.2.1) : Nat) : Int))) then
 some (Sum.inl ((), false, ()))
 else
 rec ((), v.2.1, (IntKind.wrap .i64 (v.2.2.1 - (List.getD v.2.1 (Int.toNat v.2.2.2.1) z_Event).2.1)), (IntKind.wrap .i64 (v.2.2.2.1 + (1:Int))), ())
 else
 rec ((), v.2.1, (IntKind.wrap .i64 (v.2.2.1 - (List.getD v.2.1 (Int.toNat v.2.2.2.1) z_Event).2.1)), (IntKind.wrap .i64 (v.2.2.2.1 + (1:Int))), ())
 else
 bif (decide ((0:Int) < (((List.length (List.getD v.2.1 (Int.toNat v.2.2.2.1) z_Event).2.2.1) : Nat) : Int))) then
 some (Sum.inl ((), false, ()))
 else
 rec ((), v.2.1, (IntKind.wrap .i64 (v.2.2.1 - (List.getD v.2.1 (Int.toNat v.2.2.2.1) z_Event).2.1)), (IntKind.wrap .i64 (v.2.2.2.1 + (1:Int))), ())
 else
 some (Sum.inl ((), false, ()))
 else
 bif (!(decide ((List.getD v.2.1 (Int.toNat v.2.2.2.1) z_Event).1 = (1:Int)))) then
 bif (!(!((decide ((List.getD v.2.1 (Int.toNat v.2.2.2.1) z_Event).2.2.2.1.1 = (0:Int))) && ((decide ((List.getD v.2.1 (Int.toNat v.2.2.2.1) z_Event).2.2.2.1.2.1 = (0:Int))) && ((decide ((List.getD v.2.1 (Int.toNat v.2.2.2.1) z_Event).2.2.2.1.2.2.1 = (0:Int))) && true))))) then
 bif (!(decide ((List.getD v.2.1 (Int.toNat v.2.2.2.1) z_Event).1 = (2:Int)))) then
 bif (decide ((List.getD v.2.1 (Int.toNat v.2.2.2.1) z_Event).1 = (4:Int))) then
 bif (decide ((0:Int) < (((List.length (List.getD v.2.1 (Int.toNat v.2.2.2.1) z_Event).2.2.1) : Nat) : Int))) then
 some (Sum.inl ((), false, ()))
 else
 rec ((), v.2.1, (IntKind.wrap .i64 (v.2.2.1 - (List.getD v.2.1 (Int.toNat v.2.2.2.1) z_Event).2.1)), (IntKind.wrap .i64 (v.2.2.2.1 + (1:Int))), ())
 else
 rec ((), v.2.1, (IntKind.wrap .i64 (v.2.2.1 - (List.getD v.2.1 (Int.toNat v.2.2.2.1) z_Event).2.1)), (IntKind.wrap .i64 (v.2.2.2.1 + (1:Int))), ())
 else
 bif (decide ((0:Int) < (((List.length (List.getD v.2.1 (Int.toNat v.2.2.2.1) z_Event).2.2.1) : Nat) : Int))) then
 some (Sum.inl ((), false, ()))
 else
 rec ((), v.2.1, (IntKind.wrap .i64 (v.2.2.1 - (List.getD v.2.1 (Int.toNat v.2.2.2.1) z_Event).2.1)), (IntKind.wrap .i64 (v.2.2.2.1 + (1:Int))), ())
 else
 some (Sum.inl ((), false, ()))
 else
 bif (!(decide ((List.getD v.2.1 (Int.toNat v.2.2.2.1) z_Event).1 = (2:Int)))) then
 bif (decide ((List.getD v.2.1 (Int.toNat v.2.2.2.1) z_Event).1 = (4:Int))) then
 bif (decide ((0:Int) < (((List.length (List.getD v.2.1 (Int.toNat v.2.2.2.1) z_Event).2.2.1) : Nat) : Int))) then
 some (Sum.inl ((), false, ()))
 else
 rec ((), v.2.1, (IntKind.wrap .i64 (v.2.2.1 - (List.getD v.2.1 (Int.toNat v.2.2.2.1) z_Event).2.1)), (IntKind.wrap .i64 (v.2.2.2.1 + (1:Int))), ())
 else
 rec ((), v.2.1, (IntKind.wrap .i64 (v.2.2.1 - (List.getD v.2.1 (Int.toNat v.2.2.2.1) z_Event).2.1)), (IntKind.wrap .i64 (v.2.2.2.1 + (1:Int))), ())
 else
 bif (decide ((0:Int) < (((List.length (List.getD v.2.1 (Int.toNat v.2.2.2.1) z_Event).2.2.1) : Nat) : Int))) then
 some (Sum.inl ((), false, ()))
 else
 rec ((), v.2.1, (IntKind.wrap .i64 (v.2.2.1 - (List.getD v.2.1 (Int.toNat v.2.2.2.1) z_Event).2.1)), (IntKind.wrap .i64 (v.2.2.2.1 + (1:Int))), ())
 else
 some (Sum.inl ((), false, ()))
 else
 some (Sum.inl ((), false, ()))
 else none
 else none
 else
 some (Sum.inr ((), ()))
def spec_EventsOk (k : Nat) (x0 : (List D_Event)) : Option ((Bool × Unit) × Unit) :=
 bif (decide ((200:Int) < (((List.length x0) : Nat) : Int))) then
 some ((false, ()), ())
 else
 (iter (spec_EventsOk_s5) k ((), x0, (4000:Int), (0:Int), ())).bind fun o1 =>
 Sum.elim (fun a2 =>
 some (a2.2, ()))
 (fun b3 =>
 some ((true, ()), ())) o1
def spec_Be16 (x0 : (List Int)) (x1 : Int) : Option ((Int × (Bool × Unit)) × Unit) :=
 bif (!(decide (x1 < (0:Int)))) then
 bif (decide ((IntKind.wrap .i64 ((((List.length x0) : Nat) : Int) - (2:Int))) < x1)) then
 some (((0:Int), false, ()), ())
 else
 bif ((decide ((0:Int) ≤ x1)) && (decide (x1 < (((List.length x0) : Nat) : Int)))) then
 bif (decide ((Int.toNat x1) < (List.length x0))) then
 bif ((decide ((0:Int) ≤ (IntKind.wrap .i64 (x1 + (1:Int))))) && (decide ((IntKind.wrap .i64 (x1 + (1:Int))) < (((List.length x0) : Nat) : Int)))) then
 bif (decide ((Int.toNat (IntKind.wrap .i64 (x1 + (1:Int)))) < (List.length x0))) then
 some (((IntKind.wrap .i64 ((IntKind.wrap .i64 ((256:Int) * (IntKind.wrap .i64 (List.getD x0 (Int.toNat x1) (0:Int))))) + (IntKind.wrap .i64 (List.getD x0 (Int.toNat (IntKind.wrap .i64 (x1 + (1:Int)))) (0:Int))))), true, ()), ())
 else none
 else none
 else none
 else none
 else
 some (((0:Int), false, ()), ())
def spec_l02Word (x0 : Int) : Option ((Bool × Unit) × Unit) :=
 bif (decide ((0:Int) ≤ x0)) then
 some (((decide (x0 ≤ (65535:Int))), ()), ())
 else
 some ((false, ()), ())
def spec_SumAdd (x0 : Int) (x1 : Int) : Option ((Int × Unit) × Unit) :=
 (spec_l02Word x0).bind fun t1 =>
 bif (!(!t1.1.1)) then
 (spec_l02Word x1).bind fun t2 =>
 bif (!t2.1.1) then
 some (((-1 : Int), ()), ())
 else
 bif (decide ((65535:Int) < (IntKind.wrap .i64 (x0 + x1)))) then
 some (((IntKind.wrap .i64 ((IntKind.wrap .i64 (x0 + x1)) - (65535:Int))), ()), ())
 else
 some (((IntKind.wrap .i64 (x0 + x1)), ()), ())
 else
 some (((-1 : Int), ()), ())
def spec_OnesSum_s5 (rec : (Unit × ((List Int) × (Int × (Int × Unit)))) → Option ((Unit × (Int × Unit)))) (v : (Unit × ((List Int) × (Int × (Int × Unit))))) : Option ((Unit × (Int × Unit))) :=
 bif (decide (v.2.2.2.1 < (((List.length v.2.1) : Nat) : Int))) then
 bif ((decide ((0:Int) ≤ v.2.2.2.1)) && (decide (v.2.2.2.1 < (((List.length v.2.1) : Nat) : Int)))) then
 bif (decide ((Int.toNat v.2.2.2.1) < (List.length v.2.1))) then
 bif (decide ((IntKind.wrap .i64 (v.2.2.2.1 + (1:Int))) < (((List.length v.2.1) : Nat) : Int))) then
 bif ((decide ((0:Int) ≤ (IntKind.wrap .i64 (v.2.2.2.1 + (1:Int))))) && (decide ((IntKind.wrap .i64 (v.2.2.2.1 + (1:Int))) < (((List.length v.2.1) : Nat) : Int)))) then
 bif (decide ((Int.toNat (IntKind.wrap .i64 (v.2.2.2.1 + (1:Int)))) < (List.length v.2.1))) then
 (spec_SumAdd v.2.2.1 (IntKind.wrap .i64 ((IntKind.wrap .i64 ((256:Int) * (IntKind.wrap .i64 (List.getD v.2.1 (Int.toNat v.2.2.2.1) (0:Int))))) + (IntKind.wrap .i64 (List.getD v.2.1 (Int.toNat (IntKind.wrap .i64 (v.2.2.2.1 + (1:Int)))) (0:Int)))))).bind fun t1 =>
 rec ((), v.2.1, t1.1.1, (IntKind.wrap .i64 (v.2.2.2.1 + (2:Int))), ())
 else none
 else none
 else
 (spec_SumAdd v.2.2.1 (IntKind.wrap .i64 ((256:Int) * (IntKind.wrap .i64 (List.getD v.2.1 (Int.toNat v.2.2.2.1) (0:Int)))))).bind fun t2 =>
 rec ((), v.2.1, t2.1.1, (IntKind.wrap .i64 (v.2.2.2.1 + (2:Int))), ())
 else none
 else none
 else
 some ((), v.2.2.1, ())
def spec_OnesSum (k : Nat) (x0 : (List Int)) : Option ((Int × Unit) × Unit) :=
 bif (decide ((2000:Int) < (((List.length x0) : Nat) : Int))) then
 some (((-1 : Int), ()), ())
 else
 (iter (spec_OnesSum_s5) k ((), x0, (0:Int), (0:Int), ())).bind fun o1 =>
 some (o1.2, ())
def spec_Checksum (k : Nat) (x0 : (List Int)) : Option ((Int × Unit) × Unit) :=
 (spec_OnesSum k x0).bind fun t1 =>
 bif (decide (t1.1.1 < (0:Int))) then
 some (((-1 : Int), ()), ())
 else
 some (((IntKind.wrap .i64 ((65535:Int) - t1.1.1)), ()), ())
def spec_Be32_s5 (rec : (Unit × ((List Int) × D_Vec)) → Option ((Unit × (Int × Unit)))) (v : (Unit × ((List Int) × D_Vec))) : Option ((Unit × (Int × Unit))) :=
 bif (decide (v.2.2.2.2.1 < (4:Int))) then
 bif ((decide ((0:Int) ≤ (IntKind.wrap .i64 (v.2.2.1 + v.2.2.2.2.1)))) && (decide ((IntKind.wrap .i64 (v.2.2.1 + v.2.2.2.2.1)) < (((List.length v.2.1) : Nat) : Int)))) then
 bif (decide ((Int.toNat (IntKind.wrap .i64 (v.2.2.1 + v.2.2.2.2.1))) < (List.length v.2.1))) then
 rec ((), v.2.1, v.2.2.1, (IntKind.wrap .i64 ((IntKind.wrap .i64 ((256:Int) * v.2.2.2.1)) + (IntKind.wrap .i64 (List.getD v.2.1 (Int.toNat (IntKind.wrap .i64 (v.2.2.1 + v.2.2.2.2.1))) (0:Int))))), (IntKind.wrap .i64 (v.2.2.2.2.1 + (1:Int))), ())
 else none
 else none
 else
 some ((), v.2.2.2.1, ())
def spec_Be32 (k : Nat) (x0 : (List Int)) (x1 : Int) : Option ((Int × (Bool × Unit)) × Unit) :=
 bif (!(decide (x1 < (0:Int)))) then
 bif (decide ((IntKind.wrap .i64 ((((List.length x0) : Nat) : Int) - (4:Int))) < x1)) then
 some (((0:Int), false, ()), ())
 else
 (iter (spec_Be32_s5) k ((), x0, x1, (0:Int), (0:Int), ())).bind fun o1 =>
 some ((o1.2.1, true, ()), ())
 else
 some (((0:Int), false, ()), ())
def spec_AddrOf (k : Nat) (x0 : (List Int)) : Option ((D_Addr × (Bool × Unit)) × Unit) :=
 bif (decide ((((List.length x0) : Nat) : Int) = (4:Int))) then
 (spec_Be32 k x0 (0:Int)).bind fun t1 =>
 some ((((4:Int), (0:Int), (0:Int), (0:Int), t1.1.1, ()), true, ()), ())
 else
 bif (decide ((((List.length x0) : Nat) : Int) = (16:Int))) then
 (spec_Be32 k x0 (0:Int)).bind fun t2 =>
 (spec_Be32 k x0 (4:Int)).bind fun t3 =>
 (spec_Be32 k x0 (8:Int)).bind fun t4 =>
 (spec_Be32 k x0 (12:Int)).bind fun t5 =>
 some ((((6:Int), t2.1.1, t3.1.1, t4.1.1, t5.1.1, ()), true, ()), ())
 else
 some ((((0:Int), (0:Int), (0:Int), (0:Int), (0:Int), ()), false, ()), ())
def spec_l22None (x0 : D_Cmd) (x1 : Bool) (x2 : Bool) (x3 : Bool) (x4 : Bool) (x5 : Bool) : Option ((Bool × Unit) × Unit) :=
 bif (!x1) then
 bif (!(!(decide (x0.2.1 = (0:Int))))) then
 bif (!x2) then
 bif (!(!(decide (x0.2.2.1 = (0:Int))))) then
 bif (!x5) then
 bif (!(decide ((((List.length x0.2.2.2.2.2.1) : Nat) : Int) = (0:Int)))) then
 some ((false, ()), ())
 else
 bif (!x3) then
 bif ((decide (x0.2.2.2.1.1 = (0:Int))) && ((((decide (x0.2.2.2.1.2.1.1.1 = (0:Int))) && ((decide (x0.2.2.2.1.2.1.1.2.1 = (0:Int))) && ((decide (x0.2.2.2.1.2.1.1.2.2.1 = (0:Int))) && ((decide (x0.2.2.2.1.2.1.1.2.2.2.1 = (0:Int))) && ((decide (x0.2.2.2.1.2.1.1.2.2.2.2.1 = (0:Int))) && true))))) && ((decide (x0.2.2.2.1.2.1.2.1 = (0:Int))) && true)) && ((((decide (x0.2.2.2.1.2.2.1.1.1 = (0:Int))) && ((decide (x0.2.2.2.1.2.2.1.1.2.1 = (0:Int))) && ((decide (x0.2.2.2.1.2.2.1.1.2.2.1 = (0:Int))) && ((decide (x0.2.2.2.1.2.2.1.1.2.2.2.1 = (0:Int))) && ((decide (x0.2.2.2.1.2.2.1.1.2.2.2.2.1 = (0:Int))) && true))))) && ((decide (x0.2.2.2.1.2.2.1.2.1 = (0:Int))) && true)) && ((decide (x0.2.2.2.1.2.2.2.1 = (0:Int))) && ((decide (x0.2.2.2.1.2.2.2.2.1 = (0:Int))) && ((decide (x0.2.2.2.1.2.2.2.2.2.1 = (0:Int))) && ((decide (x0.2.2.2.1.2.2.2.2.2.2.1 = (0:Int))) && ((decide (x0.2.2.2.1.2.2.2.2.2.2.2.1 = (0:Int))) && ((decide (x0.2.2.2.1.2.2.2.2.2.2.2.2.1 = (0:Int))) && ((decide (x0.2.2.2.1.2.2.2.2.2.2.2.2.2.1 = (0:Int))) && ((decide (x0.2.2.2.1.2.2.2.2.2.2.2.2.2.2.1 = (0:Int))) && true))))))))))) then
 bif (!x4) then
 some ((((decide (x0.2.2.2.2.1.1 = (0:Int))) && ((decide (x0.2.2.2.2.1.2.1 = (0:Int))) && ((decide (x0.2.2.2.2.1.2.2.1 = (0:Int))) && ((decide (x0.2.2.2.2.1.2.2.2.1 = (0:Int))) && ((x0.2.2.2.2.1.2.2.2.2.1 == false) && true))))), ()), ())
 else
 some ((true, ()), ())
 else
 some ((false, ()), ())
 else
 bif (!x4) then
 some ((((decide (x0.2.2.2.2.1.1 = (0:Int))) && ((decide (x0.2.2.2.2.1.2.1 = (0:Int))) && ((decide (x0.2.2.2.2.1.2.2.1 = (0:Int))) && ((decide (x0.2.2.2.2.1.2.2.2.1 = (0:Int))) && ((x0.2.2.2.2.1.2.2.2.2.1 == false) && true))))), ()), ())
 else
 some ((true, ()), ())
 else
 bif (!x3) then
 bif ((decide (x0.2.2.2.1.1 = (0:Int))) && ((((decide (x0.2.2.2.1.2.1.1.1 = (0:Int))) && ((decide (x0.2.2.2.1.2.1.1.2.1 = (0:Int))) && ((decide (x0.2.2.2.1.2.1.1.2.2.1 = (0:Int))) && ((decide (x0.2.2.2.1.2.1.1.2.2.2.1 = (0:Int))) && ((decide (x0.2.2.2.1.2.1.1.2.2.2.2.1 = (0:Int))) && true))))) && ((decide (x0.2.2.2.1.2.1.2.1 = (0:Int))) && true)) && ((((decide (x0.2.2.2.1.2.2.1.1.1 = (0:Int))) && ((decide (x0.2.2.2.1.2.2.1.1.2.1 = (0:Int))) && ((decide (x0.2.2.2.1.2.2.1.1.2.2.1 = (0:Int))) && ((decide (x0.2.2.2.1.2.2.1.1.2.2.2.1 = (0:Int))) && ((decide (x0.2.2.2.1.2.2.1.1.2.2.2.2.1 = (0:Int))) && true))))) && ((decide (x0.2.2.2.1.2.2.1.2.1 = (0:Int))) && true)) && ((decide (x0.2.2.2.1.2.2.2.1 = (0:Int))) && ((decide (x0.2.2.2.1.2.2.2.2.1 = (0:Int))) && ((decide (x0.2.2.2.1.2.2.2.2.2.1 = (0:Int))) && ((decide (x0.2.2.2.1.2.2.2.2.2.2.1 = (0:Int))) && ((decide (x0.2.2.2.1.2.2.2.2.2.2.2.1 = (0:Int))) && ((decide (x0.2.2.2.1.2.2.2.2.2.2.2.2.1 = (0:Int))) && ((decide (x0.2.2.2.1.2.2.2.2.2.2.2.2.2.1 = (0:Int))) && ((decide (x0.2.2.2.1.2.2.2.2.2.2.2.2.2.2.1 = (0:Int))) && true))))))))))) then
 bif (!x4) then
 some ((((decide (x0.2.2.2.2.1.1 = (0:Int))) && ((decide (x0.2.2.2.2.1.2.1 = (0:Int))) && ((decide (x0.2.2.2.2.1.2.2.1 = (0:Int))) && ((decide (x0.2.2.2.2.1.2.2.2.1 = (0:Int))) && ((x0.2.2.2.2.1.2.2.2.2.1 == false) && true))))), ()), ())
 else
 some ((true, ()), ())
 else
 some ((false, ()), ())
 else
 bif (!x4) then
 some ((((decide (x0.2.2.2.2.1.1 = (0:Int))) && ((decide (x0.2.2.2.2.1.2.1 = (0:Int))) && ((decide (x0.2.2.2.2.1.2.2.1 = (0:Int))) && ((decide (x0.2.2.2.2.1.2.2.2.1 = (0:Int))) && ((x0.2.2.2.2.1.2.2.2.2.1 == false) && true))))), ()), ())
 else
 some ((true, ()), ())
 else
 some ((false, ()), ())
 else
 bif (!x5) then
 bif (!(decide ((((List.length x0.2.2.2.2.2.1) : Nat) : Int) = (0:Int)))) then
 some ((false, ()), ())
 else
 bif (!x3) then
 bif ((decide (x0.2.2.2.1.1 = (0:Int))) && ((((decide (x0.2.2.2.1.2.1.1.1 = (0:Int))) && ((decide (x0.2.2.2.1.2.1.1.2.1 = (0:Int))) && ((decide (x0.2.2.2.1.2.1.1.2.2.1 = (0:Int))) && ((decide (x0.2.2.2.1.2.1.1.2.2.2.1 = (0:Int))) && ((decide (x0.2.2.2.1.2.1.1.2.2.2.2.1 = (0:Int))) && true))))) && ((decide (x0.2.2.2.1.2.1.2.1 = (0:Int))) && true)) && ((((decide (x0.2.2.2.1.2.2.1.1.1 = (0:Int))) && ((decide (x0.2.2.2.1.2.2.1.1.2.1 = (0:Int))) && ((decide (x0.2.2.2.1.2.2.1.1.2.2.1 = (0:Int))) && ((decide (x0.2.2.2.1.2.2.1.1.2.2.2.1 = (0:Int))) && ((decide (x0.2.2.2.1.2.2.1.1.2.2.2.2.1 = (0:Int))) && true))))) && ((decide (x0.2.2.2.1.2.2.1.2.1 = (0:Int))) && true)) && ((decide (x0.2.2.2.1.2.2.2.1 = (0:Int))) && ((decide (x0.2.2.2.1.2.2.2.2.1 = (0:Int))) && ((decide (x0.2.2.2.1.2.2.2.2.2.1 = (0:Int))) && ((decide (x0.2.2.2.1.2.2.2.2.2.2.1 = (0:Int))) && ((decide (x0.2.2.2.1.2.2.2.2.2.2.2.1 = (0:Int))) && ((decide (x0.2.2.2.1.2.2.2.2.2.2.2.2.1 = (0:Int))) && ((decide (x0.2.2.2.1.2.2.2.2.2.2.2.2.2.1 = (0:Int))) && ((decide (x0.2.2.2.1.2.2.2.2.2.2.2.2.2.2.1 = (0:Int))) && true))))))))))) then
 bif (!x4) then
 some ((((decide (x0.2.2.2.2.1.1 = (0:Int))) && ((decide (x0.2.2.2.2.1.2.1 = (0:Int))) && ((decide (x0.2.2.2.2.1.2.2.1 = (0:Int))) && ((decide (x0.2.2.2.2.1.2.2.2.1 = (0:Int))) && ((x0.2.2.2.2.1.2.2.2.2.1 == false) && true))))), ()), ())
 else
 some ((true, ()), ())
 else
 some ((false, ()), ())
 else
 bif (!x4) then
 some ((((decide (x0.2.2.2.2.1.1 = (0:Int))) && ((decide (x0.2.2.2.2.1.2.1 = (0:Int))) && ((decide (x0.2.2.2.2.1.2.2.1 = (0:Int))) && ((decide (x0.2.2.2.2.1.2.2.2.1 = (0:Int))) && ((x0.2.2.2.2.1.2.2.2.2.1 == false) && true))))), ()), ())
 else
 some ((true, ()), ())
 else
 bif (!x3) then
 bif ((decide (x0.2.2.2.1.1 = (0:Int))) && ((((decide (x0.2.2.2.1.2.1.1.1 = (0:Int))) && ((decide (x0.2.2.2.1.2.1.1.2.1 = (0:Int))) && ((decide (x0.2.2.2.1.2.1.1.2.2.1 = (0:Int))) && ((decide (x0.2.2.2.1.2.1.1.2.2.2.1 = (0:Int))) && ((decide (x0.2.2.2.1.2.1.1.2.2.2.2.1 = (0:Int))) && true))))) && ((decide (x0.2.2.2.1.2.1.2.1 = (0:Int))) && true)) && ((((decide (x0.2.2.2.1.2.2.1.1.1 = (0:Int))) && ((decide (x0.2.2.2.1.2.2.1.1.2.1 = (0:Int))) && ((decide (x0.2.2.2.1.2.2.1.1.2.2.1 = (0:Int))) && ((decide (x0.2.2.2.1.2.2.1.1.2.2.2.1 = (0:Int))) && ((decide (x0.2.2.2.1.2.2.1.1.2.2.2.2.1 = (0:Int))) && true))))) && ((decide (x0.2.2.2.1.2.2.1.2.1 = (0:Int))) && true)) && ((decide (x0.2.2.2.1.2.2.2.1 = (0:Int))) && ((decide (x0.2.2.2.1.2.2.2.2.1 = (0:Int))) && ((decide (x0.2.2.2.1.2.2.2.2.2.1 = (0:Int))) && ((decide (x0.2.2.2.1.2.2.2.2.2.2.1 = (0:Int))) && ((decide (x0.2.2.2.1.2.2.2.2.2.2.2.1 = (0:Int))) && ((decide (x0.2.2.2.1.2.2.2.2.2.2.2.2.1 = (0:Int))) && ((decide (x0.2.2.2.1.2.2.2.2.2.2.2.2.2.1 = (0:Int))) && ((decide (x0.2.2.2.1.2.2.2.2.2.2.2.2.2.2.1 = (0:Int))) && true))))))))))) then
 bif (!x4) then
 some ((((decide (x0.2.2.2.2.1.1 = (0:Int))) && ((decide (x0.2.2.2.2.1.2.1 = (0:Int))) && ((decide (x0.2.2.2.2.1.2.2.1 = (0:Int))) && ((decide (x0.2.2.2.2.1.2.2.2.1 = (0:Int))) && ((x0.2.2.2.2.1.2.2.2.2.1 == false) && true))))), ()), ())
 else
 some ((true, ()), ())
 else
 some ((false, ()), ())
 else
 bif (!x4) then
 some ((((decide (x0.2.2.2.2.1.1 = (0:Int))) && ((decide (x0.2.2.2.2.1.2.1 = (0:Int))) && ((decide (x0.2.2.2.2.1.2.2.1 = (0:Int))) && ((decide (x0.2.2.2.2.1.2.2.2.1 = (0:Int))) && ((x0.2.2.2.2.1.2.2.2.2.1 == false) && true))))), ()), ())
 else
 some ((true, ()), ())
 else
 some ((false, ()), ())
 else
 bif (!x2) then
 bif (!(!(decide (x0.2.2.1 = (0:Int))))) then
 bif (!x5) then
 bif (!(decide ((((List.length x0.2.2.2.2.2.1) : Nat) : Int) = (0:Int)))) then
 some ((false, ()), ())
 else
 bif (!x3) then
 bif ((decide (x0.2.2.2.1.1 = (0:Int))) && ((((decide (x0.2.2.2.1.2.1.1.1 = (0:Int))) && ((decide (x0.2.2.2.1.2.1.1.2.1 = (0:Int))) && ((decide (x0.2.2.2.1.2.1.1.2.2.1 = (0:Int))) && ((decide (x0.2.2.2.1.2.1.1.2.2.2.1 = (0:Int))) && ((decide (x0.2.2.2.1.2.1.1.2.2.2.2.1 = (0:Int))) && true))))) && ((decide (x0.2.2.2.1.2.1.2.1 = (0:Int))) && true)) && ((((decide (x0.2.2.2.1.2.2.1.1.1 = (0:Int))) && ((decide (x0.2.2.2.1.2.2.1.1.2.1 = (0:Int))) && ((decide (x0.2.2.2.1.2.2.1.1.2.2.1 = (0:Int))) && ((decide (x0.2.2.2.1.2.2.1.1.2.2.2.1 = (0:Int))) && ((decide (x0.2.2.2.1.2.2.1.1.2.2.2.2.1 = (0:Int))) && true))))) && ((decide (x0.2.2.2.1.2.2.1.2.1 = (0:Int))) && true)) && ((decide (x0.2.2.2.1.2.2.2.1 = (0:Int))) && ((decide (x0.2.2.2.1.2.2.2.2.1 = (0:Int))) && ((decide (x0.2.2.2.1.2.2.2.2.2.1 = (0:Int))) && ((decide (x0.2.2.2.1.2.2.2.2.2.2.1 = (0:Int))) && ((decide (x0.2.2.2.1.2.2.2.2.2.2.2.1 = (0:Int))) && ((decide (x0.2.2.2.1.2.2.2.2.2.2.2.2.1 = (0:Int))) && ((decide (x0.2.2.2.1.2.2.2.2.2.2.2.2.2.1 = (0:Int))) && ((decide (x0.2.2.2.1.2.2.2.2.2.2.2.2.2.2.1 = (0:Int))) && true))))))))))) then
 bif (!x4) then
 some ((((decide (x0.2.2.2.2.1.1 = (0:Int))) && ((decide (x0.2.2.2.2.1.2.1 = (0:Int))) && ((decide (x0.2.2.2.2.1.2.2.1 = (0:Int))) && ((decide (x0.2.2.2.2.1.2.2.2.1 = (0:Int))) && ((x0.2.2.2.2.1.2.2.2.2.1 == false) && true))))), ()), ())
 else
 some ((true, ()), ())
 else
 some ((false, ()), ())
 else
 bif (!x4) then
 some ((((decide (x0.2.2.2.2.1.1 = (0:Int))) && ((decide (x0.2.2.2.2.1.2.1 = (0:Int))) && ((decide (x0.2.2.2.2.1.2.2.1 = (0:Int))) && ((decide (x0.2.2.2.2.1.2.2.2.1 = (0:Int))) && ((x0.2.2.2.2.1.2.2.2.2.1 == false) && true))))), ()), ())
 else
 some ((true, ()), ())
 else
 bif (!x3) then
 bif ((decide (x0.2.2.2.1.1 = (0:Int))) && ((((decide (x0.2.2.2.1.2.1.1.1 = (0:Int))) && ((decide (x0.2.2.2.1.2.1.1.2.1 = (0:Int))) && ((decide (x0.2.2.2.1.2.1.1.2.2.1 = (0:Int))) && ((decide (x0.2.2.2.1.2.1.1.2.2.2.1 = (0:Int))) && ((decide (x0.2.2.2.1.2.1.1.2.2.2.2.1 = (0:Int))) && true))))) && ((decide (x0.2.2.2.1.2.1.2.1 = (0:Int))) && true)) && ((((decide (x0.2.2.2.1.2.2.1.1.1 = (0:Int))) && ((decide (x0.2.2.2.1.2.2.1.1.2.1 = (0:Int))) && ((decide (x0.2.2.2.1.2.2.1.1.2.2.1 = (0:Int))) && ((decide (x0.2.2.2.1.2.2.1.1.2.2.2.1 = (0:Int))) && ((decide (x0.2.2.2.1.2.2.1.1.2.2.2.2.1 = (0:Int))) && true))))) && ((decide (x0.2.2.2.1.2.2.1.2.1 = (0:Int))) && true)) && ((decide (x0.2.2.2.1.2.2.2.1 = (0:Int))) && ((decide (x0.2.2.2.1.2.2.2.2.1 = (0:Int))) && ((decide (x0.2.2.2.1.2.2.2.2.2.1 = (0:Int))) && ((decide (x0.2.2.2.1.2.2.2.2.2.2.1 = (0:Int))) && ((decide (x0.2.2.2.1.2.2.2.2.2.2.2.1 = (0:Int))) && ((decide (x0.2.2.2.1.2.2.2.2.2.2.2.2.1 = (0:Int))) && ((decide (x0.2.2.2.1.2.2.2.2.2.2.2.2.2.1 = (0:Int))) && ((decide (x0.2.2.2.1.2.2.2.2.2.2.2.2.2.2.1 = (0:Int))) && true))))))))))) then
 bif (!x4) then
 some ((((decide (x0.2.2.2.2.1.1 = (0:Int))) && ((decide (x0.2.2.2.2.1.2.1 = (0:Int))) && ((decide (x0.2.2.2.2.1.2.2.1 = (0:Int))) && ((decide (x0.2.2.2.2.1.2.2.2.1 = (0:Int))) && ((x0.2.2.2.2.1.2.2.2.2.1 == false) && true))))), ()), ())
 else
 some ((true, ()), ())
 else
 some ((false, ()), ())
 else
 bif (!x4) then
 some ((((decide (x0.2.2.2.2.1.1 = (0:Int))) && ((decide (x0.2.2.2.2.1.2.1 = (0:Int))) && ((decide (x0.2.2.2.2.1.2.2.1 = (0:Int))) && ((decide (x0.2.2.2.2.1.2.2.2.1 = (0:Int))) && ((x0.2.2.2.2.1.2.2.2.2.1 == false) && true))))), ()), ())
 else
 some ((true, ()), ())
 else
 some ((false, ()), ())
 else
 bif (!x5) then
 bif (!(decide ((((List.length x0.2.2.2.2.2.1) : Nat) : Int) = (0:Int)))) then
 some ((false, ()), ())
 else
 bif (!x3) then
 bif ((decide (x0.2.2.2.1.1 = (0:Int))) && ((((decide (x0.2.2.2.1.2.1.1.1 = (0:Int))) && ((decide (x0.2.2.2.1.2.1.1.2.1 = (0:Int))) && ((decide (x0.2.2.2.1.2.1.1.2.2.1 = (0:Int))) && ((decide (x0.2.2.2.1.2.1.1.2.2.2.1 = (0:Int))) && ((decide (x0.2.2.2.1.2.1.1.2.2.2.2.1 = (0:Int))) && true))))) && ((decide (x0.2.2.2.1.2.1.2.1 = (0:Int))) && true)) && ((((decide (x0.2.2.2.1.2.2.1.1.1 = (0:Int))) && ((decide (x0.2.2.2.1.2.2.1.1.2.1 = (0:Int))) && ((decide (x0.2.2.2.1.2.2.1.1.2.2.1 = (0:Int))) && ((decide (x0.2.2.2.1.2.2.1.1.2.2.2.1 = (0:Int))) && ((decide (x0.2.2.2.1.2.2.1.1.2.2.2.2.1 = (0:Int))) && true))))) && ((decide (x0.2.2.2.1.2.2.1.2.1 = (0:Int))) && true)) && ((decide (x0.2.2.2.1.2.2.2.1 = (0:Int))) && ((decide (x0.2.2.2.1.2.2.2.2.1 = (0:Int))) && ((decide (x0.2.2.2.1.2.2.2.2.2.1 = (0:Int))) && ((decide (x0.2.2.2.1.2.2.2.2.2.2.1 = (0:Int))) && ((decide (x0.2.2.2.1.2.2.2.2.2.2.2.1 = (0:Int))) && ((decide (x0.2.2.2.1.2.2.2.2.2.2.2.2.1 = (0:Int))) && ((decide (x0.2.2.2.1.2.2.2.2.2.2.2.2.2.1 = (0:Int))) && ((decide (x0.2.2.2.1.2.2.2.2.2.2.2.2.2.2.1 = (0:Int))) && true))))))))))) then
 bif (!x4) then
 some ((((decide (x0.2.2.2.2.1.1 = (0:Int))) && ((decide (x0.2.2.2.2.1.2.1 = (0:Int))) && ((decide (x0.2.2.2.2.1.2.2.1 = (0:Int))) && ((decide (x0.2.2.2.2.1.2.2.2.1 = (0:Int))) && ((x0.2.2.2.2.1.2.2.2.2.1 == false) && true))))), ()), ())
 else
 some ((true, ()), ())
 else
 some ((false, ()), ())
 else
 bif (!x4) then
 some ((((decide (x0.2.2.2.2.1.1 = (0:Int))) && ((decide (x0.2.2.2.2.1.2.1 = (0:Int))) && ((decide (x0.2.2.2.2.1.2.2.1 = (0:Int))) && ((decide (x0.2.2.2.2.1.2.2.2.1 = (0:Int))) && ((x0.2.2.2.2.1.2.2.2.2.1 == false) && true))))), ()), ())
 else
 some ((true, ()), ())
 else
 bif (!x3) then
 bif ((decide (x0.2.2.2.1.1 = (0:Int))) && ((((decide (x0.2.2.2.1.2.1.1.1 = (0:Int))) && ((decide (x0.2.2.2.1.2.1.1.2.1 = (0:Int))) && ((decide (x0.2.2.2.1.2.1.1.2.2.1 = (0:Int))) && ((decide (x0.2.2.2.1.2.1.1.2.2.2.1 = (0:Int))) && ((decide (x0.2.2.2.1.2.1.1.2.2.2.2.1 = (0:Int))) && true))))) && ((decide (x0.2.2.2.1.2.1.2.1 = (0:Int))) && true)) && ((((decide (x0.2.2.2.1.2.2.1.1.1 = (0:Int))) && ((decide (x0.2.2.2.1.2.2.1.1.2.1 = (0:Int))) && ((decide (x0.2.2.2.1.2.2.1.1.2.2.1 = (0:Int))) && ((decide (x0.2.2.2.1.2.2.1.1.2.2.2.1 = (0:Int))) && ((decide (x0.2.2.2.1.2.2.1.1.2.2.2.2.1 = (0:Int))) && true))))) && ((decide (x0.2.2.2.1.2.2.1.2.1 = (0:Int))) && true)) && ((decide (x0.2.2.2.1.2.2.2.1 = (0:Int))) && ((decide (x0.2.2.2.1.2.2.2.2.1 = (0:Int))) && ((decide (x0.2.2.2.1.2.2.2.2.2.1 = (0:Int))) && ((decide (x0.2.2.2.1.2.2.2.2.2.2.1 = (0:Int))) && ((decide (x0.2.2.2.1.2.2.2.2.2.2.2.1 = (0:Int))) && ((decide (x0.2.2.2.1.2.2.2.2.2.2.2.2.1 = (0:Int))) && ((decide (x0.2.2.2.1.2.2.2.2.2.2.2.2.2.1 = (0:Int))) && ((decide (x0.2.2.2.1.2.2.2.2.2.2.2.2.2.2.1 = (0:Int))) && true))))))))))) then
 bif (!x4) then
 some ((((decide (x0.2.2.2.2.1.1 = (0:Int))) && ((decide (x0.2.2.2.2.1.2.1 = (0:Int))) && ((decide (x0.2.2.2.2.1.2.2.1 = (0:Int))) && ((decide (x0.2.2.2.2.1.2.2.2.1 = (0:Int))) && ((x0.2.2.2.2.1.2.2.2.2.1 == false) && true))))), ()), ())
 else
 some ((true, ()), ())
 else
 some ((false, ()), ())
 else
 bif (!x4) then
 some ((((decide (x0.2.2.2.2.1.1 = (0:Int))) && ((decide (x0.2.2.2.2.1.2.1 = (0:Int))) && ((decide (x0.2.2.2.2.1.2.2.1 = (0:Int))) && ((decide (x0.2.2.2.2.1.2.2.2.1 = (0:Int))) && ((x0.2.2.2.2.1.2.2.2.2.1 == false) && true))))), ()), ())
 else
 some ((true, ()), ())
def spec_l03Any (x0 : D_Prefix) : Option ((Bool × Unit) × Unit) :=
 some (((((decide (x0.1.1 = (0:Int))) && ((decide (x0.1.2.1 = (0:Int))) && ((decide (x0.1.2.2.1 = (0:Int))) && ((decide (x0.1.2.2.2.1 = (0:Int))) && ((decide (x0.1.2.2.2.2.1 = (0:Int))) && true))))) && ((decide (x0.2.1 = (0:Int))) && true)), ()), ())
def spec_l03Half (x0 : Int) : Option ((Bool × Unit) × Unit) :=
 bif (decide ((0:Int) ≤ x0)) then
 some (((decide (x0 ≤ (4294967295:Int))), ()), ())
 else
 some ((false, ()), ())
def spec_AddrOk (x0 : D_Addr) : Option ((Bool × Unit) × Unit) :=
 bif (decide (x0.1 = (4:Int))) then
 bif (decide (x0.2.1 = (0:Int))) then
 bif (decide (x0.2.2.1 = (0:Int))) then
 bif (decide (x0.2.2.2.1 = (0:Int))) then
 (spec_l03Half x0.2.2.2.2.1).bind fun t1 =>
 some (t1.1, ())
 else
 some ((false, ()), ())
 else
 some ((false, ()), ())
 else
 some ((false, ()), ())
 else
 bif (decide (x0.1 = (6:Int))) then
 (spec_l03Half x0.2.1).bind fun t2 =>
 bif t2.1.1 then
 (spec_l03Half x0.2.2.1).bind fun t3 =>
 bif t3.1.1 then
 (spec_l03Half x0.2.2.2.1).bind fun t4 =>
 bif t4.1.1 then
 (spec_l03Half x0.2.2.2.2.1).bind fun t5 =>
 some (t5.1, ())
 else
 some ((false, ()), ())
 else
 some ((false, ()), ())
 else
 some ((false, ()), ())
 else
 some ((false, ()), ())
def spec_l03Bits (x0 : D_Addr) : Option ((Int × Unit) × Unit) :=
 bif (decide (x0.1 = (4:Int))) then
 some (((32:Int), ()), ())
 else
 some (((128:Int), ()), ())
def spec_l01Low (x0 : Int) (x1 : Int) : Option ((Int × Unit) × Unit) :=
 bif (!(decide (x1 = (0:Int)))) then
 bif (decide ((Int.tmod x0 x1) < (0:Int))) then
 some (((IntKind.wrap .i64 ((Int.tmod x0 x1) + x1)), ()), ())
 else
 some (((Int.tmod x0 x1), ()), ())
 else none
def spec_Put16 (x0 : Int) : Option (D_cursor × Unit) :=
 (spec_l01Low x0 (65536:Int)).bind fun t1 =>
 some ((([(IntKind.wrap .u8 (IntKind.wrap .i64 (Int.tdiv t1.1.1 (256:Int)))), (IntKind.wrap .u8 (Int.tmod t1.1.1 (256:Int)))] : List Int), ()), ())
def spec_Put32 (x0 : Int) : Option (D_cursor × Unit) :=
 (spec_l01Low x0 (4294967296:Int)).bind fun t1 =>
 (spec_Put16 (IntKind.wrap .i64 (Int.tdiv t1.1.1 (65536:Int)))).bind fun t2 =>
 (spec_Put16 (Int.tmod t1.1.1 (65536:Int))).bind fun t3 =>
 bif (decide ((((List.length t2.1.1) + (List.length t3.1.1)) * 1) ≤ (1099511627776:Nat))) then
 some (((t2.1.1 ++ t3.1.1), ()), ())
 else none
def spec_AddrBytes (x0 : D_Addr) : Option (D_cursor × Unit) :=
 (spec_AddrOk x0).bind fun t1 =>
 bif (!t1.1.1) then
 some ((([] : List Int), ()), ())
 else
 bif (decide (x0.1 = (4:Int))) then
 (spec_Put32 x0.2.2.2.2.1).bind fun t2 =>
 some (t2.1, ())
 else
 (spec_Put32 x0.2.1).bind fun t3 =>
 (spec_Put32 x0.2.2.1).bind fun t4 =>
 bif (decide ((((List.length t3.1.1) + (List.length t4.1.1)) * 1) ≤ (1099511627776:Nat))) then
 (spec_Put32 x0.2.2.2.1).bind fun t5 =>
 bif (decide ((((List.length (t3.1.1 ++ t4.1.1)) + (List.length t5.1.1)) * 1) ≤ (1099511627776:Nat))) then
 (spec_Put32 x0.2.2.2.2.1).bind fun t6 =>
 bif (decide ((((List.length ((t3.1.1 ++ t4.1.1) ++ t5.1.1)) + (List.length t6.1.1)) * 1) ≤ (1099511627776:Nat))) then
 some (((((t3.1.1 ++ t4.1.1) ++ t5.1.1) ++ t6.1.1), ()), ())
 else none
 else none
 else none
def spec_Cut_s9 (rec : (Unit × (D_Addr × (D_Addr × ((List Int) × D_Vec)))) → Option ((Unit × (D_Addr × (D_Addr × ((List Int) × (Int × (Int × Unit)))))))) (v : (Unit × (D_Addr × (D_Addr × ((List Int) × D_Vec))))) : Option ((Unit × (D_Addr × (D_Addr × ((List Int) × (Int × (Int × Unit))))))) :=
 bif (decide ((0:Int) < v.2.2.2.2.2.2.1)) then
 rec ((), v.2.1, v.2.2.1, v.2.2.2.1, v.2.2.2.2.1, (IntKind.wrap .i64 (Int.tdiv v.2.2.2.2.2.1 (2:Int))), (IntKind.wrap .i64 (v.2.2.2.2.2.2.1 - (1:Int))), ())
 else
 some ((), v.2.1, v.2.2.1, v.2.2.2.1, v.2.2.2.2.1, v.2.2.2.2.2.1, ())
def spec_Cut_s5 (k : Nat) (rec : (Unit × (D_Addr × (D_Addr × ((List Int) × (Int × Unit))))) → Option ((Unit × (D_Addr × D_cursor)))) (v : (Unit × (D_Addr × (D_Addr × ((List Int) × (Int × Unit)))))) : Option ((Unit × (D_Addr × D_cursor))) :=
 (spec_l03Bits v.2.1).bind fun t4 =>
 bif (decide (v.2.2.2.2.1 < t4.1.1)) then
 (iter (spec_Cut_s9) k ((), v.2.1, v.2.2.1, v.2.2.2.1, v.2.2.2.2.1, (128:Int), (Int.tmod v.2.2.2.2.1 (8:Int)), ())).bind fun o5 =>
 bif ((decide ((0:Int) ≤ (IntKind.wrap .i64 (Int.tdiv o5.2.2.2.2.1 (8:Int))))) && (decide ((IntKind.wrap .i64 (Int.tdiv o5.2.2.2.2.1 (8:Int))) < (((List.length o5.2.2.2.1) : Nat) : Int)))) then
 bif (decide ((Int.toNat (IntKind.wrap .i64 (Int.tdiv o5.2.2.2.2.1 (8:Int)))) < (List.length o5.2.2.2.1))) then
 bif (!(decide (o5.2.2.2.2.2.1 = (0:Int)))) then
 bif (decide ((Int.tmod (IntKind.wrap .i64 (Int.tdiv (IntKind.wrap .i64 (List.getD o5.2.2.2.1 (Int.toNat (IntKind.wrap .i64 (Int.tdiv o5.2.2.2.2.1 (8:Int)))) (0:Int))) o5.2.2.2.2.2.1)) (2:Int)) = (1:Int))) then
 bif ((decide ((0:Int) ≤ (IntKind.wrap .i64 (Int.tdiv o5.2.2.2.2.1 (8:Int))))) && (decide ((IntKind.wrap .i64 (Int.tdiv o5.2.2.2.2.1 (8:Int))) < (((List.length o5.2.2.2.1) : Nat) : Int)))) then
 bif (decide ((Int.toNat (IntKind.wrap .i64 (Int.tdiv o5.2.2.2.2.1 (8:Int)))) < (List.length o5.2.2.2.1))) then
 bif ((decide ((0:Int) ≤ (IntKind.wrap .i64 (Int.tdiv o5.2.2.2.2.1 (8:Int))))) && (decide ((IntKind.wrap .i64 (Int.tdiv o5.2.2.2.2.1 (8:Int))) < (((List.length o5.2.2.2.1) : Nat) : Int)))) then
 bif (decide ((Int.toNat (IntKind.wrap .i64 (Int.tdiv o5.2.2.2.2.1 (8:Int)))) < (List.length o5.2.2.2.1))) then
 let y6 : (List Int) := (List.set o5.2.2.2.1 (Int.toNat (IntKind.wrap .i64 (Int.tdiv o5.2.2.2.2.1 (8:Int)))) (IntKind.wrap .u8 ((List.getD o5.2.2.2.1 (Int.toNat (IntKind.wrap .i64 (Int.tdiv o5.2.2.2.2.1 (8:Int)))) (0:Int)) - (IntKind.wrap .u8 o5.2.2.2.2.2.1))))
 rec ((), o5.2.1, o5.2.2.1, y6, (IntKind.wrap .i64 (o5.2.2.2.2.1 + (1:Int))), ())
 else none
 else none
 else none
 else none
 else
 rec ((), o5.2.1, o5.2.2.1, o5.2.2.2.1, (IntKind.wrap .i64 (o5.2.2.2.2.1 + (1:Int))), ())
 else none
 else none
 else none
 else
 some ((), v.2.2.1, v.2.2.2.1, ())
def spec_Cut (k : Nat) (x0 : D_Addr) (x1 : Int) : Option ((D_Addr × Unit) × Unit) :=
 (spec_AddrOk x0).bind fun t1 =>
 bif (!(!t1.1.1)) then
 bif (!(decide (x1 < (0:Int)))) then
 (spec_l03Bits x0).bind fun t2 =>
 bif (decide (t2.1.1 < x1)) then
 some ((((0:Int), (0:Int), (0:Int), (0:Int), (0:Int), ()), ()), ())
 else
 (spec_AddrBytes x0).bind fun t3 =>
 (iter (spec_Cut_s5 k) k ((), x0, ((0:Int), (0:Int), (0:Int), (0:Int), (0:Int), ()), t3.1.1, x1, ())).bind fun o4 =>
 (spec_AddrOf k o4.2.2.1).bind fun t5 =>
 some ((t5.1.1, ()), ())
 else
 some ((((0:Int), (0:Int), (0:Int), (0:Int), (0:Int), ()), ()), ())
 else
 some ((((0:Int), (0:Int), (0:Int), (0:Int), (0:Int), ()), ()), ())
def spec_PrefixOk (k : Nat) (x0 : D_Prefix) : Option ((Bool × Unit) × Unit) :=
 (spec_l03Any x0).bind fun t1 =>
 bif (!t1.1.1) then
 (spec_AddrOk x0.1).bind fun t2 =>
 bif t2.1.1 then
 bif (decide ((0:Int) ≤ x0.2.1)) then
 (spec_l03Bits x0.1).bind fun t3 =>
 bif (decide (x0.2.1 ≤ t3.1.1)) then
 (spec_Cut k x0.1 x0.2.1).bind fun t4 =>
 some ((((decide (t4.1.1.1 = x0.1.1)) && ((decide (t4.1.1.2.1 = x0.1.2.1)) && ((decide (t4.1.1.2.2.1 = x0.1.2.2.1)) && ((decide (t4.1.1.2.2.2.1 = x0.1.2.2.2.1)) && ((decide (t4.1.1.2.2.2.2.1 = x0.1.2.2.2.2.1)) && true))))), ()), ())
 else
 some ((false, ()), ())
 else
 some ((false, ()), ())
 else
 some ((false, ()), ())
 else
 some ((true, ()), ())
def spec_l09Range (x0 : Int) (x1 : Int) : Option ((Bool × Unit) × Unit) :=
 bif (decide ((0:Int) ≤ x0)) then
 bif (decide (x0 ≤ x1)) then
 some (((decide (x1 ≤ (65535:Int))), ()), ())
 else
 some ((false, ()), ())
 else
 some ((false, ()), ())
def spec_RuleOk (k : Nat) (x0 : D_Rule) : Option ((Bool × Unit) × Unit) :=
 bif (!(decide (x0.1 < (1:Int)))) then
 bif (!(decide ((9999:Int) < x0.1))) then
 (spec_PrefixOk k x0.2.1).bind fun t1 =>
 bif (!(!t1.1.1)) then
 (spec_PrefixOk k x0.2.2.1).bind fun t2 =>
 bif (!(!t2.1.1)) then
 bif (!(decide (x0.2.2.2.1 < (-1 : Int)))) then
 bif (decide ((255:Int) < x0.2.2.2.1)) then
 some ((false, ()), ())
 else
 (spec_l09Range x0.2.2.2.2.1 x0.2.2.2.2.2.1).bind fun t3 =>
 bif (!(!t3.1.1)) then
 (spec_l09Range x0.2.2.2.2.2.2.1 x0.2.2.2.2.2.2.2.1).bind fun t4 =>
 bif (!t4.1.1) then
 some ((false, ()), ())
 else
 bif (decide ((1:Int) ≤ x0.2.2.2.2.2.2.2.2.1)) then
 bif (decide (x0.2.2.2.2.2.2.2.2.1 ≤ (8:Int))) then
 bif (decide ((1:Int) ≤ x0.2.2.2.2.2.2.2.2.2.1)) then
 bif (decide (x0.2.2.2.2.2.2.2.2.2.1 ≤ (10:Int))) then
 bif (decide ((1:Int) ≤ x0.2.2.2.2.2.2.2.2.2.2.1)) then
 some (((decide (x0.2.2.2.2.2.2.2.2.2.2.1 ≤ (8:Int))), ()), ())
 else
 some ((false, ()), ())
 else
 some ((false, ()), ())
 else
 some ((false, ()), ())
 else
 some ((false, ()), ())
 else
 some ((false, ()), ())
 else
 some ((false, ()), ())
 else
 some ((false, ()), ())
 else
 some ((false, ()), ())
 else
 some ((false, ()), ())
 else
 some ((false, ()), ())
 else
 some ((false, ()), ())
def spec_LimitsOk (x0 : D_Limits) : Option ((Bool × Unit) × Unit) :=
 bif (!(decide (x0.1 < (1:Int)))) then
 bif (!(decide ((64:Int) < x0.1))) then
 bif (!(decide (x0.2.1 < (1:Int)))) then
 bif (decide ((100000:Int) < x0.2.1)) then
 some ((false, ()), ())
 else
 bif (decide ((1:Int) ≤ x0.2.2.1)) then
 bif (decide (x0.2.2.1 ≤ (1000000:Int))) then
 bif (decide ((0:Int) ≤ x0.2.2.2.1)) then
 some (((decide (x0.2.2.2.1 ≤ (100000:Int))), ()), ())
 else
 some ((false, ()), ())
 else
 some ((false, ()), ())
 else
 some ((false, ()), ())
 else
 some ((false, ()), ())
 else
 some ((false, ()), ())
 else
 some ((false, ()), ())
def spec_l05In (x0 : Int) (x1 : Int) : Option ((Bool × Unit) × Unit) :=
 bif (decide ((0:Int) ≤ x0)) then
 some (((decide (x0 ≤ x1)), ()), ())
 else
 some ((false, ()), ())
def spec_l10Twins (k : Nat) (x0 : D_Prefix) (x1 : D_Prefix) : Option ((Bool × Unit) × Unit) :=
 (spec_PrefixOk k x0).bind fun t1 =>
 bif t1.1.1 then
 (spec_PrefixOk k x1).bind fun t2 =>
 bif t2.1.1 then
 (spec_l03Any x0).bind fun t3 =>
 bif (!t3.1.1) then
 (spec_l03Any x1).bind fun t4 =>
 bif (!t4.1.1) then
 bif (decide (x0.1.1 = x1.1.1)) then
 some (((decide (x0.2.1 = x1.2.1)), ()), ())
 else
 some ((false, ()), ())
 else
 some ((false, ()), ())
 else
 some ((false, ()), ())
 else
 some ((false, ()), ())
 else
 some ((false, ()), ())
def spec_ModuleOk (k : Nat) (x0 : D_Module) : Option ((Bool × Unit) × Unit) :=
 bif (!(decide (x0.1 = (2:Int)))) then
 bif (!(decide (x0.1 = (5:Int)))) then
 bif (!(decide (x0.1 < (1:Int)))) then
 bif (decide ((7:Int) < x0.1)) then
 some ((false, ()), ())
 else
 bif (!(decide (x0.1 = (1:Int)))) then
 bif (!(!(decide (x0.2.2.2.1 = (0:Int))))) then
 bif (!(!(decide (x0.2.2.2.2.1 = (0:Int))))) then
 bif (!(!(decide (x0.2.2.2.2.2.1 = (0:Int))))) then
 bif (!(decide (x0.1 = (7:Int)))) then
 bif (!(!(decide (x0.2.2.2.2.2.2.1 = (0:Int))))) then
 bif (!(decide (x0.1 = (1:Int)))) then
 bif (!(decide (x0.1 = (3:Int)))) then
 (spec_l03Any x0.2.1).bind fun t1 =>
 bif (!(!t1.1.1)) then
 (spec_l03Any x0.2.2.1).bind fun t2 =>
 bif (!t2.1.1) then
 some ((false, ()), ())
 else
 bif (decide (x0.1 = (1:Int))) then
 (spec_PrefixOk k x0.2.1).bind fun t3 =>
 bif t3.1.1 then
 (spec_PrefixOk k x0.2.2.1).bind fun t4 =>
 bif t4.1.1 then
 bif (decide ((-1 : Int) ≤ x0.2.2.2.1)) then
 bif (decide (x0.2.2.2.1 ≤ (255:Int))) then
 (spec_l09Range x0.2.2.2.2.1 x0.2.2.2.2.2.1).bind fun t5 =>
 some (t5.1, ())
 else
 some ((false, ()), ())
 else
 some ((false, ()), ())
 else
 some ((false, ()), ())
 else
 some ((false, ()), ())
 else
 bif (decide (x0.1 = (2:Int))) then
 bif (decide (x0.1 = (2:Int))) then
 (spec_l10Twins k x0.2.1 x0.2.2.1).bind fun t6 =>
 some (t6.1, ())
 else
 bif (decide (x0.1 = (5:Int))) then
 (spec_l05In x0.2.2.2.2.2.2.1 (63:Int)).bind fun t7 =>
 some (t7.1, ())
 else
 bif (decide (x0.1 = (7:Int))) then
 bif (decide ((1:Int) ≤ x0.2.2.2.2.2.2.1)) then
 some (((decide (x0.2.2.2.2.2.2.1 ≤ (4:Int))), ()), ())
 else
 some ((false, ()), ())
 else
 some ((true, ()), ())
 else
 bif (decide (x0.1 = (3:Int))) then
 (spec_l10Twins k x0.2.1 x0.2.2.1).bind fun t8 =>
 some (t8.1, ())
 else
 bif (decide (x0.1 = (5:Int))) then
 (spec_l05In x0.2.2.2.2.2.2.1 (63:Int)).bind fun t9 =>
 some (t9.1, ())
 else
 bif (decide (x0.1 = (7:Int))) then
 bif (decide ((1:Int) ≤ x0.2.2.2.2.2.2.1)) then
 some (((decide (x0.2.2.2.2.2.2.1 ≤ (4:Int))), ()), ())
 else
 some ((false, ()), ())
 else
 some ((true, ()), ())
 else
 some ((false, ()), ())
 else
 bif (decide (x0.1 = (1:Int))) then
 (spec_PrefixOk k x0.2.1).bind fun t10 =>
 bif t10.1.1 then
 (spec_PrefixOk k x0.2.2.1).bind fun t11 =>
 bif t11.1.1 then
 bif (decide ((-1 : Int) ≤ x0.2.2.2.1)) then
 bif (decide (x0.2.2.2.1 ≤ (255:Int))) then
 (spec_l09Range x0.2.2.2.2.1 x0.2.2.2.2.2.1).bind fun t12 =>
 some (t12.1, ())
 else
 some ((false, ()), ())
 else
 some ((false, ()), ())
 else
 some ((false, ()), ())
 else
 some ((false, ()), ())
 else
 bif (decide (x0.1 = (2:Int))) then
 bif (decide (x0.1 = (2:Int))) then
 (spec_l10Twins k x0.2.1 x0.2.2.1).bind fun t13 =>
 some (t13.1, ())
 else
 bif (decide (x0.1 = (5:Int))) then
 (spec_l05In x0.2.2.2.2.2.2.1 (63:Int)).bind fun t14 =>
 some (t14.1, ())
 else
 bif (decide (x0.1 = (7:Int))) then
 bif (decide ((1:Int) ≤ x0.2.2.2.2.2.2.1)) then
 some (((decide (x0.2.2.2.2.2.2.1 ≤ (4:Int))), ()), ())
 else
 some ((false, ()), ())
 else
 some ((true, ()), ())
 else
 bif (decide (x0.1 = (3:Int))) then
 (spec_l10Twins k x0.2.1 x0.2.2.1).bind fun t15 =>
 some (t15.1, ())
 else
 bif (decide (x0.1 = (5:Int))) then
 (spec_l05In x0.2.2.2.2.2.2.1 (63:Int)).bind fun t16 =>
 some (t16.1, ())
 else
 bif (decide (x0.1 = (7:Int))) then
 bif (decide ((1:Int) ≤ x0.2.2.2.2.2.2.1)) then
 some (((decide (x0.2.2.2.2.2.2.1 ≤ (4:Int))), ()), ())
 else
 some ((false, ()), ())
 else
 some ((true, ()), ())
 else
 bif (decide (x0.1 = (1:Int))) then
 (spec_PrefixOk k x0.2.1).bind fun t17 =>
 bif t17.1.1 then
 (spec_PrefixOk k x0.2.2.1).bind fun t18 =>
 bif t18.1.1 then
 bif (decide ((-1 : Int) ≤ x0.2.2.2.1)) then
 bif (decide (x0.2.2.2.1 ≤ (255:Int))) then
 (spec_l09Range x0.2.2.2.2.1 x0.2.2.2.2.2.1).bind fun t19 =>
 some (t19.1, ())
 else
 some ((false, ()), ())
 else
 some ((false, ()), ())
 else
 some ((false, ()), ())
 else
 some ((false, ()), ())
 else
 bif (decide (x0.1 = (2:Int))) then
 bif (decide (x0.1 = (2:Int))) then
 (spec_l10Twins k x0.2.1 x0.2.2.1).bind fun t20 =>
 some (t20.1, ())
 else
 bif (decide (x0.1 = (5:Int))) then
 (spec_l05In x0.2.2.2.2.2.2.1 (63:Int)).bind fun t21 =>
 some (t21.1, ())
 else
 bif (decide (x0.1 = (7:Int))) then
 bif (decide ((1:Int) ≤ x0.2.2.2.2.2.2.1)) then
 some (((decide (x0.2.2.2.2.2.2.1 ≤ (4:Int))), ()), ())
 else
 some ((false, ()), ())
 else
 some ((true, ()), ())
 else
 bif (decide (x0.1 = (3:Int))) then
 (spec_l10Twins k x0.2.1 x0.2.2.1).bind fun t22 =>
 some (t22.1, ())
 else
 bif (decide (x0.1 = (5:Int))) then
 (spec_l05In x0.2.2.2.2.2.2.1 (63:Int)).bind fun t23 =>
 some (t23.1, ())
 else
 bif (decide (x0.1 = (7:Int))) then
 bif (decide ((1:Int) ≤ x0.2.2.2.2.2.2.1)) then
 some (((decide (x0.2.2.2.2.2.2.1 ≤ (4:Int))), ()), ())
 else
 some ((false, ()), ())
 else
 some ((true, ()), ())
 else
 some ((false, ()), ())
 else
 bif (!(decide (x0.1 = (1:Int)))) then
 bif (!(decide (x0.1 = (3:Int)))) then
 (spec_l03Any x0.2.1).bind fun t24 =>
 bif (!(!t24.1.1)) then
 (spec_l03Any x0.2.2.1).bind fun t25 =>
 bif (!t25.1.1) then
 some ((false, ()), ())
 else
 bif (decide (x0.1 = (1:Int))) then
 (spec_PrefixOk k x0.2.1).bind fun t26 =>
 bif t26.1.1 then
 (spec_PrefixOk k x0.2.2.1).bind fun t27 =>
 bif t27.1.1 then
 bif (decide ((-1 : Int) ≤ x0.2.2.2.1)) then
 bif (decide (x0.2.2.2.1 ≤ (255:Int))) then
 (spec_l09Range x0.2.2.2.2.1 x0.2.2.2.2.2.1).bind fun t28 =>
 some (t28.1, ())
 else
 some ((false, ()), ())
 else
 some ((false, ()), ())
 else
 some ((false, ()), ())
 else
 some ((false, ()), ())
 else
 bif (decide (x0.1 = (2:Int))) then
 bif (decide (x0.1 = (2:Int))) then
 (spec_l10Twins k x0.2.1 x0.2.2.1).bind fun t29 =>
 some (t29.1, ())
 else
 bif (decide (x0.1 = (5:Int))) then
 (spec_l05In x0.2.2.2.2.2.2.1 (63:Int)).bind fun t30 =>
 some (t30.1, ())
 else
 bif (decide (x0.1 = (7:Int))) then
 bif (decide ((1:Int) ≤ x0.2.2.2.2.2.2.1)) then
 some (((decide (x0.2.2.2.2.2.2.1 ≤ (4:Int))), ()), ())
 else
 some ((false, ()), ())
 else
 some ((true, ()), ())
 else
 bif (decide (x0.1 = (3:Int))) then
 (spec_l10Twins k x0.2.1 x0.2.2.1).bind fun t31 =>
 some (t31.1, ())
 else
 bif (decide (x0.1 = (5:Int))) then
 (spec_l05In x0.2.2.2.2.2.2.1 (63:Int)).bind fun t32 =>
 some (t32.1, ())
 else
 bif (decide (x0.1 = (7:Int))) then
 bif (decide ((1:Int) ≤ x0.2.2.2.2.2.2.1)) then
 some (((decide (x0.2.2.2.2.2.2.1 ≤ (4:Int))), ()), ())
 else
 some ((false, ()), ())
 else
 some ((true, ()), ())
 else
 some ((false, ()), ())
 else
 bif (decide (x0.1 = (1:Int))) then
 (spec_PrefixOk k x0.2.1).bind fun t33 =>
 bif t33.1.1 then
 (spec_PrefixOk k x0.2.2.1).bind fun t34 =>
 bif t34.1.1 then
 bif (decide ((-1 : Int) ≤ x0.2.2.2.1)) then
 bif (decide (x0.2.2.2.1 ≤ (255:Int))) then
 (spec_l09Range x0.2.2.2.2.1 x0.2.2.2.2.2.1).bind fun t35 =>
 some (t35.1, ())
 else
 some ((false, ()), ())
 else
 some ((false, ()), ())
 else
 some ((false, ()), ())
 else
 some ((false, ()), ())
 else
 bif (decide (x0.1 = (2:Int))) then
 bif (decide (x0.1 = (2:Int))) then
 (spec_l10Twins k x0.2.1 x0.2.2.1).bind fun t36 =>
 some (t36.1, ())
 else
 bif (decide (x0.1 = (5:Int))) then
 (spec_l05In x0.2.2.2.2.2.2.1 (63:Int)).bind fun t37 =>
 some (t37.1, ())
 else
 bif (decide (x0.1 = (7:Int))) then
 bif (decide ((1:Int) ≤ x0.2.2.2.2.2.2.1)) then
 some (((decide (x0.2.2.2.2.2.2.1 ≤ (4:Int))), ()), ())
 else
 some ((false, ()), ())
 else
 some ((true, ()), ())
 else
 bif (decide (x0.1 = (3:Int))) then
 (spec_l10Twins k x0.2.1 x0.2.2.1).bind fun t38 =>
 some (t38.1, ())
 else
 bif (decide (x0.1 = (5:Int))) then
 (spec_l05In x0.2.2.2.2.2.2.1 (63:Int)).bind fun t39 =>
 some (t39.1, ())
 else
 bif (decide (x0.1 = (7:Int))) then
 bif (decide ((1:Int) ≤ x0.2.2.2.2.2.2.1)) then
 some (((decide (x0.2.2.2.2.2.2.1 ≤ (4:Int))), ()), ())
 else
 some ((false, ()), ())
 else
 some ((true, ()), ())
 else
 bif (decide (x0.1 = (1:Int))) then
 (spec_PrefixOk k x0.2.1).bind fun t40 =>
 bif t40.1.1 then
 (spec_PrefixOk k x0.2.2.1).bind fun t41 =>
 bif t41.1.1 then
 bif (decide ((-1 : Int) ≤ x0.2.2.2.1)) then
 bif (decide (x0.2.2.2.1 ≤ (255:Int))) then
 (spec_l09Range x0.2.2.2.2.1 x0.2.2.2.2.2.1).bind fun t42 =>
 some (t42.1, ())
 else
 some ((false, ()), ())
 else
 some ((false, ()), ())
 else
 some ((false, ()), ())
 else
 some ((false, ()), ())
 else
 bif (decide (x0.1 = (2:Int))) then
 bif (decide (x0.1 = (2:Int))) then
 (spec_l10Twins k x0.2.1 x0.2.2.1).bind fun t43 =>
 some (t43.1, ())
 else
 bif (decide (x0.1 = (5:Int))) then
 (spec_l05In x0.2.2.2.2.2.2.1 (63:Int)).bind fun t44 =>
 some (t44.1, ())
 else
 bif (decide (x0.1 = (7:Int))) then
 bif (decide ((1:Int) ≤ x0.2.2.2.2.2.2.1)) then
 some (((decide (x0.2.2.2.2.2.2.1 ≤ (4:Int))), ()), ())
 else
 some ((false, ()), ())
 else
 some ((true, ()), ())
 else
 bif (decide (x0.1 = (3:Int))) then
 (spec_l10Twins k x0.2.1 x0.2.2.1).bind fun t45 =>
 some (t45.1, ())
 else
 bif (decide (x0.1 = (5:Int))) then
 (spec_l05In x0.2.2.2.2.2.2.1 (63:Int)).bind fun t46 =>
 some (t46.1, ())
 else
 bif (decide (x0.1 = (7:Int))) then
 bif (decide ((1:Int) ≤ x0.2.2.2.2.2.2.1)) then
 some (((decide (x0.2.2.2.2.2.2.1 ≤ (4:Int))), ()), ())
 else
 some ((false, ()), ())
 else
 some ((true, ()), ())
 else
 some ((false, ()), ())
 else
 some ((false, ()), ())
 else
 some ((false, ()), ())
 else
 bif (!(decide (x0.1 = (7:Int)))) then
 bif (!(!(decide (x0.2.2.2.2.2.2.1 = (0:Int))))) then
 bif (!(decide (x0.1 = (1:Int)))) then
 bif (!(decide (x0.1 = (3:Int)))) then
 (spec_l03Any x0.2.1).bind fun t47 =>
 bif (!(!t47.1.1)) then
 (spec_l03Any x0.2.2.1).bind fun t48 =>
 bif (!t48.1.1) then
 some ((false, ()), ())
 else
 bif (decide (x0.1 = (1:Int))) then
 (spec_PrefixOk k x0.2.1).bind fun t49 =>
 bif t49.1.1 then
 (spec_PrefixOk k x0.2.2.1).bind fun t50 =>
 bif t50.1.1 then
 bif (decide ((-1 : Int) ≤ x0.2.2.2.1)) then
 bif (decide (x0.2.2.2.1 ≤ (255:Int))) then
 (spec_l09Range x0.2.2.2.2.1 x0.2.2.2.2.2.1).bind fun t51 =>
 some (t51.1, ())
 else
 some ((false, ()), ())
 else
 some ((false, ()), ())
 else
 some ((false, ()), ())
 else
 some ((false, ()), ())
 else
 bif (decide (x0.1 = (2:Int))) then
 bif (decide (x0.1 = (2:Int))) then
 (spec_l10Twins k x0.2.1 x0.2.2.1).bind fun t52 =>
 some (t52.1, ())
 else
 bif (decide (x0.1 = (5:Int))) then
 (spec_l05In x0.2.2.2.2.2.2.1 (63:Int)).bind fun t53 =>
 some (t53.1, ())
 else
 bif (decide (x0.1 = (7:Int))) then
 bif (decide ((1:Int) ≤ x0.2.2.2.2.2.2.1)) then
 some (((decide (x0.2.2.2.2.2.2.1 ≤ (4:Int))), ()), ())
 else
 some ((false, ()), ())
 else
 some ((true, ()), ())
 else
 bif (decide (x0.1 = (3:Int))) then
 (spec_l10Twins k x0.2.1 x0.2.2.1).bind fun t54 =>
 some (t54.1, ())
 else
 bif (decide (x0.1 = (5:Int))) then
 (spec_l05In x0.2.2.2.2.2.2.1 (63:Int)).bind fun t55 =>
 some (t55.1, ())
 else
 bif (decide (x0.1 = (7:Int))) then
 bif (decide ((1:Int) ≤ x0.2.2.2.2.2.2.1)) then
 some (((decide (x0.2.2.2.2.2.2.1 ≤ (4:Int))), ()), ())
 else
 some ((false, ()), ())
 else
 some ((true, ()), ())
 else
 some ((false, ()), ())
 else
 bif (decide (x0.1 = (1:Int))) then
 (spec_PrefixOk k x0.2.1).bind fun t56 =>
 bif t56.1.1 then
 (spec_PrefixOk k x0.2.2.1).bind fun t57 =>
 bif t57.1.1 then
 bif (decide ((-1 : Int) ≤ x0.2.2.2.1)) then
 bif (decide (x0.2.2.2.1 ≤ (255:Int))) then
 (spec_l09Range x0.2.2.2.2.1 x0.2.2.2.2.2.1).bind fun t58 =>
 some (t58.1, ())
 else
 some ((false, ()), ())
 else
 some ((false, ()), ())
 else
 some ((false, ()), ())
 else
 some ((false, ()), ())
 else
 bif (decide (x0.1 = (2:Int))) then
 bif (decide (x0.1 = (2:Int))) then
 (spec_l10Twins k x0.2.1 x0.2.2.1).bind fun t59 =>
 some (t59.1, ())
 else
 bif (decide (x0.1 = (5:Int))) then
 (spec_l05In x0.2.2.2.2.2.2.1 (63:Int)).bind fun t60 =>
 some (t60.1, ())
 else
 bif (decide (x0.1 = (7:Int))) then
 bif (decide ((1:Int) ≤ x0.2.2.2.2.2.2.1)) then
 some (((decide (x0.2.2.2.2.2.2.1 ≤ (4:Int))), ()), ())
 else
 some ((false, ()), ())
 else
 some ((true, ()), ())
 else
 bif (decide (x0.1 = (3:Int))) then
 (spec_l10Twins k x0.2.1 x0.2.2.1).bind fun t61 =>
 some (t61.1, ())
 else
 bif (decide (x0.1 = (5:Int))) then
 (spec_l05In x0.2.2.2.2.2.2.1 (63:Int)).bind fun t62 =>
 some (t62.1, ())
 else
 bif (decide (x0.1 = (7:Int))) then
 bif (decide ((1:Int) ≤ x0.2.2.2.2.2.2.1)) then
 some (((decide (x0.2.2.2.2.2.2.1 ≤ (4:Int))), ()), ())
 else
 some ((false, ()), ())
 else
 some ((true, ()), ())
 else
 bif (decide (x0.1 = (1:Int))) then
 (spec_PrefixOk k x0.2.1).bind fun t63 =>
 bif t63.1.1 then
 (spec_PrefixOk k x0.2.2.1).bind fun t64 =>
 bif t64.1.1 then
 bif (decide ((-1 : Int) ≤ x0.2.2.2.1)) then
 bif (decide (x0.2.2.2.1 ≤ (255:Int))) then
 (spec_l09Range x0.2.2.2.2.1 x0.2.2.2.2.2.1).bind fun t65 =>
 some (t65.1, ())
 else
 some ((false, ()), ())
 else
 some ((false, ()), ())
 else
 some ((false, ()), ())
 else
 some ((false, ()), ())
 else
 bif (decide (x0.1 = (2:Int))) then
 bif (decide (x0.1 = (2:Int))) then
 (spec_l10Twins k x0.2.1 x0.2.2.1).bind fun t66 =>
 some (t66.1, ())
 else
 bif (decide (x0.1 = (5:Int))) then
 (spec_l05In x0.2.2.2.2.2.2.1 (63:Int)).bind fun t67 =>
 some (t67.1, ())
 else
 bif (decide (x0.1 = (7:Int))) then
 bif (decide ((1:Int) ≤ x0.2.2.2.2.2.2.1)) then
 some (((decide (x0.2.2.2.2.2.2.1 ≤ (4:Int))), ()), ())
 else
 some ((false, ()), ())
 else
 some ((true, ()), ())
 else
 bif (decide (x0.1 = (3:Int))) then
 (spec_l10Twins k x0.2.1 x0.2.2.1).bind fun t68 =>
 some (t68.1, ())
 else
 bif (decide (x0.1 = (5:Int))) then
 (spec_l05In x0.2.2.2.2.2.2.1 (63:Int)).bind fun t69 =>
 some (t69.1, ())
 else
 bif (decide (x0.1 = (7:Int))) then
 bif (decide ((1:Int) ≤ x0.2.2.2.2.2.2.1)) then
 some (((decide (x0.2.2.2.2.2.2.1 ≤ (4:Int))), ()), ())
 else
 some ((false, ()), ())
 else
 some ((true, ()), ())
 else
 some ((false, ()), ())
 else
 bif (!(decide (x0.1 = (1:Int)))) then
 bif (!(decide (x0.1 = (3:Int)))) then
 (spec_l03Any x0.2.1).bind fun t70 =>
 bif (!(!t70.1.1)) then
 (spec_l03Any x0.2.2.1).bind fun t71 =>
 bif (!t71.1.1) then
 some ((false, ()), ())
 else
 bif (decide (x0.1 = (1:Int))) then
 (spec_PrefixOk k x0.2.1).bind fun t72 =>
 bif t72.1.1 then
 (spec_PrefixOk k x0.2.2.1).bind fun t73 =>
 bif t73.1.1 then
 bif (decide ((-1 : Int) ≤ x0.2.2.2.1)) then
 bif (decide (x0.2.2.2.1 ≤ (255:Int))) then
 (spec_l09Range x0.2.2.2.2.1 x0.2.2.2.2.2.1).bind fun t74 =>
 some (t74.1, ())
 else
 some ((false, ()), ())
 else
 some ((false, ()), ())
 else
 some ((false, ()), ())
 else
 some ((false, ()), ())
 else
 bif (decide (x0.1 = (2:Int))) then
 bif (decide (x0.1 = (2:Int))) then
 (spec_l10Twins k x0.2.1 x0.2.2.1).bind fun t75 =>
 some (t75.1, ())
 else
 bif (decide (x0.1 = (5:Int))) then
 (spec_l05In x0.2.2.2.2.2.2.1 (63:Int)).bind fun t76 =>
 some (t76.1, ())
 else
 bif (decide (x0.1 = (7:Int))) then
 bif (decide ((1:Int) ≤ x0.2.2.2.2.2.2.1)) then
 some (((decide (x0.2.2.2.2.2.2.1 ≤ (4:Int))), ()), ())
 else
 some ((false, ()), ())
 else
 some ((true, ()), ())
 else
 bif (decide (x0.1 = (3:Int))) then
 (spec_l10Twins k x0.2.1 x0.2.2.1).bind fun t77 =>
 some (t77.1, ())
 else
 bif (decide (x0.1 = (5:Int))) then
 (spec_l05In x0.2.2.2.2.2.2.1 (63:Int)).bind fun t78 =>
 some (t78.1, ())
 else
 bif (decide (x0.1 = (7:Int))) then
 bif (decide ((1:Int) ≤ x0.2.2.2.2.2.2.1)) then
 some (((decide (x0.2.2.2.2.2.2.1 ≤ (4:Int))), ()), ())
 else
 some ((false, ()), ())
 else
 some ((true, ()), ())
 else
 some ((false, ()), ())
 else
 bif (decide (x0.1 = (1:Int))) then
 (spec_PrefixOk k x0.2.1).bind fun t79 =>
 bif t79.1.1 then
 (spec_PrefixOk k x0.2.2.1).bind fun t80 =>
 bif t80.1.1 then
 bif (decide ((-1 : Int) ≤ x0.2.2.2.1)) then
 bif (decide (x0.2.2.2.1 ≤ (255:Int))) then
 (spec_l09Range x0.2.2.2.2.1 x0.2.2.2.2.2.1).bind fun t81 =>
 some (t81.1, ())
 else
 some ((false, ()), ())
 else
 some ((false, ()), ())
 else
 some ((false, ()), ())
 else
 some ((false, ()), ())
 else
 bif (decide (x0.1 = (2:Int))) then
 bif (decide (x0.1 = (2:Int))) then
 (spec_l10Twins k x0.2.1 x0.2.2.1).bind fun t82 =>
 some (t82.1, ())
 else
 bif (decide (x0.1 = (5:Int))) then
 (spec_l05In x0.2.2.2.2.2.2.1 (63:Int)).bind fun t83 =>
 some (t83.1, ())
 else
 bif (decide (x0.1 = (7:Int))) then
 bif (decide ((1:Int) ≤ x0.2.2.2.2.2.2.1)) then
 some (((decide (x0.2.2.2.2.2.2.1 ≤ (4:Int))), ()), ())
 else
 some ((false, ()), ())
 else
 some ((true, ()), ())
 else
 bif (decide (x0.1 = (3:Int))) then
 (spec_l10Twins k x0.2.1 x0.2.2.1).bind fun t84 =>
 some (t84.1, ())
 else
 bif (decide (x0.1 = (5:Int))) then
 (spec_l05In x0.2.2.2.2.2.2.1 (63:Int)).bind fun t85 =>
 some (t85.1, ())
 else
 bif (decide (x0.1 = (7:Int))) then
 bif (decide ((1:Int) ≤ x0.2.2.2.2.2.2.1)) then
 some (((decide (x0.2.2.2.2.2.2.1 ≤ (4:Int))), ()), ())
 else
 some ((false, ()), ())
 else
 some ((true, ()), ())
 else
 bif (decide (x0.1 = (1:Int))) then
 (spec_PrefixOk k x0.2.1).bind fun t86 =>
 bif t86.1.1 then
 (spec_PrefixOk k x0.2.2.1).bind fun t87 =>
 bif t87.1.1 then
 bif (decide ((-1 : Int) ≤ x0.2.2.2.1)) then
 bif (decide (x0.2.2.2.1 ≤ (255:Int))) then
 (spec_l09Range x0.2.2.2.2.1 x0.2.2.2.2.2.1).bind fun t88 =>
 some (t88.1, ())
 else
 some ((false, ()), ())
 else
 some ((false, ()), ())
 else
 some ((false, ()), ())
 else
 some ((false, ()), ())
 else
 bif (decide (x0.1 = (2:Int))) then
 bif (decide (x0.1 = (2:Int))) then
 (spec_l10Twins k x0.2.1 x0.2.2.1).bind fun t89 =>
 some (t89.1, ())
 else
 bif (decide (x0.1 = (5:Int))) then
 (spec_l05In x0.2.2.2.2.2.2.1 (63:Int)).bind fun t90 =>
 some (t90.1, ())
 else
 bif (decide (x0.1 = (7:Int))) then
 bif (decide ((1:Int) ≤ x0.2.2.2.2.2.2.1)) then
 some (((decide (x0.2.2.2.2.2.2.1 ≤ (4:Int))), ()), ())
 else
 some ((false, ()), ())
 else
 some ((true, ()), ())
 else
 bif (decide (x0.1 = (3:Int))) then
 (spec_l10Twins k x0.2.1 x0.2.2.1).bind fun t91 =>
 some (t91.1, ())
 else
 bif (decide (x0.1 = (5:Int))) then
 (spec_l05In x0.2.2.2.2.2.2.1 (63:Int)).bind fun t92 =>
 some (t92.1, ())
 else
 bif (decide (x0.1 = (7:Int))) then
 bif (decide ((1:Int) ≤ x0.2.2.2.2.2.2.1)) then
 some (((decide (x0.2.2.2.2.2.2.1 ≤ (4:Int))), ()), ())
 else
 some ((false, ()), ())
 else
 some ((true, ()), ())
 else
 some ((false, ()), ())
 else
 bif (!(decide (x0.1 < (1:Int)))) then
 bif (decide ((7:Int) < x0.1)) then
 some ((false, ()), ())
 else
 bif (!(decide (x0.1 = (1:Int)))) then
 bif (!(!(decide (x0.2.2.2.1 = (0:Int))))) then
 bif (!(!(decide (x0.2.2.2.2.1 = (0:Int))))) then
 bif (!(!(decide (x0.2.2.2.2.2.1 = (0:Int))))) then
 bif (!(decide (x0.1 = (1:Int)))) then
 bif (!(decide (x0.1 = (3:Int)))) then
 (spec_l03Any x0.2.1).bind fun t93 =>
 bif (!(!t93.1.1)) then
 (spec_l03Any x0.2.2.1).bind fun t94 =>
 bif (!t94.1.1) then
 some ((false, ()), ())
 else
 bif (decide (x0.1 = (1:Int))) then
 (spec_PrefixOk k x0.2.1).bind fun t95 =>
 bif t95.1.1 then
 (spec_PrefixOk k x0.2.2.1).bind fun t96 =>
 bif t96.1.1 then
 bif (decide ((-1 : Int) ≤ x0.2.2.2.1)) then
 bif (decide (x0.2.2.2.1 ≤ (255:Int))) then
 (spec_l09Range x0.2.2.2.2.1 x0.2.2.2.2.2.1).bind fun t97 =>
 some (t97.1, ())
 else
 some ((false, ()), ())
 else
 some ((false, ()), ())
 else
 some ((false, ()), ())
 else
 some ((false, ()), ())
 else
 bif (decide (x0.1 = (2:Int))) then
 bif (decide (x0.1 = (2:Int))) then
 (spec_l10Twins k x0.2.1 x0.2.2.1).bind fun t98 =>
 some (t98.1, ())
 else
 bif (decide (x0.1 = (5:Int))) then
 (spec_l05In x0.2.2.2.2.2.2.1 (63:Int)).bind fun t99 =>
 some (t99.1, ())
 else
 bif (decide (x0.1 = (7:Int))) then
 bif (decide ((1:Int) ≤ x0.2.2.2.2.2.2.1)) then
 some (((decide (x0.2.2.2.2.2.2.1 ≤ (4:Int))), ()), ())
 else
 some ((false, ()), ())
 else
 some ((true, ()), ())
 else
 bif (decide (x0.1 = (3:Int))) then
 (spec_l10Twins k x0.2.1 x0.2.2.1).bind fun t100 =>
 some (t100.1, ())
 else
 bif (decide (x0.1 = (5:Int))) then
 (spec_l05In x0.2.2.2.2.2.2.1 (63:Int)).bind fun t101 =>
 some (t101.1, ())
 else
 bif (decide (x0.1 = (7:Int))) then
 bif (decide ((1:Int) ≤ x0.2.2.2.2.2.2.1)) then
 some (((decide (x0.2.2.2.2.2.2.1 ≤ (4:Int))), ()), ())
 else
 some ((false, ()), ())
 else
 some ((true, ()), ())
 else
 some ((false, ()), ())
 else
 bif (decide (x0.1 = (1:Int))) then
 (spec_PrefixOk k x0.2.1).bind fun t102 =>
 bif t102.1.1 then
 (spec_PrefixOk k x0.2.2.1).bind fun t103 =>
 bif t103.1.1 then
 bif (decide ((-1 : Int) ≤ x0.2.2.2.1)) then
 bif (decide (x0.2.2.2.1 ≤ (255:Int))) then
 (spec_l09Range x0.2.2.2.2.1 x0.2.2.2.2.2.1).bind fun t104 =>
 some (t104.1, ())
 else
 some ((false, ()), ())
 else
 some ((false, ()), ())
 else
 some ((false, ()), ())
 else
 some ((false, ()), ())
 else
 bif (decide (x0.1 = (2:Int))) then
 bif (decide (x0.1 = (2:Int))) then
 (spec_l10Twins k x0.2.1 x0.2.2.1).bind fun t105 =>
 some (t105.1, ())
 else
 bif (decide (x0.1 = (5:Int))) then
 (spec_l05In x0.2.2.2.2.2.2.1 (63:Int)).bind fun t106 =>
 some (t106.1, ())
 else
 bif (decide (x0.1 = (7:Int))) then
 bif (decide ((1:Int) ≤ x0.2.2.2.2.2.2.1)) then
 some (((decide (x0.2.2.2.2.2.2.1 ≤ (4:Int))), ()), ())
 else
 some ((false, ()), ())
 else
 some ((true, ()), ())
 else
 bif (decide (x0.1 = (3:Int))) then
 (spec_l10Twins k x0.2.1 x0.2.2.1).bind fun t107 =>
 some (t107.1, ())
 else
 bif (decide (x0.1 = (5:Int))) then
 (spec_l05In x0.2.2.2.2.2.2.1 (63:Int)).bind fun t108 =>
 some (t108.1, ())
 else
 bif (decide (x0.1 = (7:Int))) then
 bif (decide ((1:Int) ≤ x0.2.2.2.2.2.2.1)) then
 some (((decide (x0.2.2.2.2.2.2.1 ≤ (4:Int))), ()), ())
 else
 some ((false, ()), ())
 else
 some ((true, ()), ())
 else
 bif (decide (x0.1 = (1:Int))) then
 (spec_PrefixOk k x0.2.1).bind fun t109 =>
 bif t109.1.1 then
 (spec_PrefixOk k x0.2.2.1).bind fun t110 =>
 bif t110.1.1 then
 bif (decide ((-1 : Int) ≤ x0.2.2.2.1)) then
 bif (decide (x0.2.2.2.1 ≤ (255:Int))) then
 (spec_l09Range x0.2.2.2.2.1 x0.2.2.2.2.2.1).bind fun t111 =>
 some (t111.1, ())
 else
 some ((false, ()), ())
 else
 some ((false, ()), ())
 else
 some ((false, ()), ())
 else
 some ((false, ()), ())
 else
 bif (decide (x0.1 = (2:Int))) then
 bif (decide (x0.1 = (2:Int))) then
 (spec_l10Twins k x0.2.1 x0.2.2.1).bind fun t112 =>
 some (t112.1, ())
 else
 bif (decide (x0.1 = (5:Int))) then
 (spec_l05In x0.2.2.2.2.2.2.1 (63:Int)).bind fun t113 =>
 some (t113.1, ())
 else
 bif (decide (x0.1 = (7:Int))) then
 bif (decide ((1:Int) ≤ x0.2.2.2.2.2.2.1)) then
 some (((decide (x0.2.2.2.2.2.2.1 ≤ (4:Int))), ()), ())
 else
 some ((false, ()), ())
 else
 some ((true, ()), ())
 else
 bif (decide (x0.1 = (3:Int))) then
 (spec_l10Twins k x0.2.1 x0.2.2.1).bind fun t114 =>
 some (t114.1, ())
 else
 bif (decide (x0.1 = (5:Int))) then
 (spec_l05In x0.2.2.2.2.2.2.1 (63:Int)).bind fun t115 =>
 some (t115.1, ())
 else
 bif (decide (x0.1 = (7:Int))) then
 bif (decide ((1:Int) ≤ x0.2.2.2.2.2.2.1)) then
 some (((decide (x0.2.2.2.2.2.2.1 ≤ (4:Int))), ()), ())
 else
 some ((false, ()), ())
 else
 some ((true, ()), ())
 else
 some ((false, ()), ())
 else
 some ((false, ()), ())
 else
 some ((false, ()), ())
 else
 bif (!(decide (x0.1 = (1:Int)))) then
 bif (!(decide (x0.1 = (3:Int)))) then
 (spec_l03Any x0.2.1).bind fun t116 =>
 bif (!(!t116.1.1)) then
 (spec_l03Any x0.2.2.1).bind fun t117 =>
 bif (!t117.1.1) then
 some ((false, ()), ())
 else
 bif (decide (x0.1 = (1:Int))) then
 (spec_PrefixOk k x0.2.1).bind fun t118 =>
 bif t118.1.1 then
 (spec_PrefixOk k x0.2.2.1).bind fun t119 =>
 bif t119.1.1 then
 bif (decide ((-1 : Int) ≤ x0.2.2.2.1)) then
 bif (decide (x0.2.2.2.1 ≤ (255:Int))) then
 (spec_l09Range x0.2.2.2.2.1 x0.2.2.2.2.2.1).bind fun t120 =>
 some (t120.1, ())
 else
 some ((false, ()), ())
 else
 some ((false, ()), ())
 else
 some ((false, ()), ())
 else
 some ((false, ()), ())
 else
 bif (decide (x0.1 = (2:Int))) then
 bif (decide (x0.1 = (2:Int))) then
 (spec_l10Twins k x0.2.1 x0.2.2.1).bind fun t121 =>
 some (t121.1, ())
 else
 bif (decide (x0.1 = (5:Int))) then
 (spec_l05In x0.2.2.2.2.2.2.1 (63:Int)).bind fun t122 =>
 some (t122.1, ())
 else
 bif (decide (x0.1 = (7:Int))) then
 bif (decide ((1:Int) ≤ x0.2.2.2.2.2.2.1)) then
 some (((decide (x0.2.2.2.2.2.2.1 ≤ (4:Int))), ()), ())
 else
 some ((false, ()), ())
 else
 some ((true, ()), ())
 else
 bif (decide (x0.1 = (3:Int))) then
 (spec_l10Twins k x0.2.1 x0.2.2.1).bind fun t123 =>
 some (t123.1, ())
 else
 bif (decide (x0.1 = (5:Int))) then
 (spec_l05In x0.2.2.2.2.2.2.1 (63:Int)).bind fun t124 =>
 some (t124.1, ())
 else
 bif (decide (x0.1 = (7:Int))) then
 bif (decide ((1:Int) ≤ x0.2.2.2.2.2.2.1)) then
 some (((decide (x0.2.2.2.2.2.2.1 ≤ (4:Int))), ()), ())
 else
 some ((false, ()), ())
 else
 some ((true, ()), ())
 else
 some ((false, ()), ())
 else
 bif (decide (x0.1 = (1:Int))) then
 (spec_PrefixOk k x0.2.1).bind fun t125 =>
 bif t125.1.1 then
 (spec_PrefixOk k x0.2.2.1).bind fun t126 =>
 bif t126.1.1 then
 bif (decide ((-1 : Int) ≤ x0.2.2.2.1)) then
 bif (decide (x0.2.2.2.1 ≤ (255:Int))) then
 (spec_l09Range x0.2.2.2.2.1 x0.2.2.2.2.2.1).bind fun t127 =>
 some (t127.1, ())
 else
 some ((false, ()), ())
 else
 some ((false, ()), ())
 else
 some ((false, ()), ())
 else
 some ((false, ()), ())
 else
 bif (decide (x0.1 = (2:Int))) then
 bif (decide (x0.1 = (2:Int))) then
 (spec_l10Twins k x0.2.1 x0.2.2.1).bind fun t128 =>
 some (t128.1, ())
 else
 bif (decide (x0.1 = (5:Int))) then
 (spec_l05In x0.2.2.2.2.2.2.1 (63:Int)).bind fun t129 =>
 some (t129.1, ())
 else
 bif (decide (x0.1 = (7:Int))) then
 bif (decide ((1:Int) ≤ x0.2.2.2.2.2.2.1)) then
 some (((decide (x0.2.2.2.2.2.2.1 ≤ (4:Int))), ()), ())
 else
 some ((false, ()), ())
 else
 some ((true, ()), ())
 else
 bif (decide (x0.1 = (3:Int))) then
 (spec_l10Twins k x0.2.1 x0.2.2.1).bind fun t130 =>
 some (t130.1, ())
 else
 bif (decide (x0.1 = (5:Int))) then
 (spec_l05In x0.2.2.2.2.2.2.1 (63:Int)).bind fun t131 =>
 some (t131.1, ())
 else
 bif (decide (x0.1 = (7:Int))) then
 bif (decide ((1:Int) ≤ x0.2.2.2.2.2.2.1)) then
 some (((decide (x0.2.2.2.2.2.2.1 ≤ (4:Int))), ()), ())
 else
 some ((false, ()), ())
 else
 some ((true, ()), ())
 else
 bif (decide (x0.1 = (1:Int))) then
 (spec_PrefixOk k x0.2.1).bind fun t132 =>
 bif t132.1.1 then
 (spec_PrefixOk k x0.2.2.1).bind fun t133 =>
 bif t133.1.1 then
 bif (decide ((-1 : Int) ≤ x0.2.2.2.1)) then
 bif (decide (x0.2.2.2.1 ≤ (255:Int))) then
 (spec_l09Range x0.2.2.2.2.1 x0.2.2.2.2.2.1).bind fun t134 =>
 some (t134.1, ())
 else
 some ((false, ()), ())
 else
 some ((false, ()), ())
 else
 some ((false, ()), ())
 else
 some ((false, ()), ())
 else
 bif (decide (x0.1 = (2:Int))) then
 bif (decide (x0.1 = (2:Int))) then
 (spec_l10Twins k x0.2.1 x0.2.2.1).bind fun t135 =>
 some (t135.1, ())
 else
 bif (decide (x0.1 = (5:Int))) then
 (spec_l05In x0.2.2.2.2.2.2.1 (63:Int)).bind fun t136 =>
 some (t136.1, ())
 else
 bif (decide (x0.1 = (7:Int))) then
 bif (decide ((1:Int) ≤ x0.2.2.2.2.2.2.1)) then
 some (((decide (x0.2.2.2.2.2.2.1 ≤ (4:Int))), ()), ())
 else
 some ((false, ()), ())
 else
 some ((true, ()), ())
 else
 bif (decide (x0.1 = (3:Int))) then
 (spec_l10Twins k x0.2.1 x0.2.2.1).bind fun t137 =>
 some (t137.1, ())
 else
 bif (decide (x0.1 = (5:Int))) then
 (spec_l05In x0.2.2.2.2.2.2.1 (63:Int)).bind fun t138 =>
 some (t138.1, ())
 else
 bif (decide (x0.1 = (7:Int))) then
 bif (decide ((1:Int) ≤ x0.2.2.2.2.2.2.1)) then
 some (((decide (x0.2.2.2.2.2.2.1 ≤ (4:Int))), ()), ())
 else
 some ((false, ()), ())
 else
 some ((true, ()), ())
 else
 some ((false, ()), ())
 else
 bif (!(decide (x0.1 = (5:Int)))) then
 bif (!(decide (x0.1 < (1:Int)))) then
 bif (decide ((7:Int) < x0.1)) then
 some ((false, ()), ())
 else
 bif (!(decide (x0.1 = (1:Int)))) then
 bif (!(!(decide (x0.2.2.2.1 = (0:Int))))) then
 bif (!(!(decide (x0.2.2.2.2.1 = (0:Int))))) then
 bif (!(!(decide (x0.2.2.2.2.2.1 = (0:Int))))) then
 bif (!(decide (x0.1 = (7:Int)))) then
 bif (!(!(decide (x0.2.2.2.2.2.2.1 = (0:Int))))) then
 bif (!(decide (x0.1 = (1:Int)))) then
 bif (decide (x0.1 = (1:Int))) then
 (spec_PrefixOk k x0.2.1).bind fun t139 =>
 bif t139.1.1 then
 (spec_PrefixOk k x0.2.2.1).bind fun t140 =>
 bif t140.1.1 then
 bif (decide ((-1 : Int) ≤ x0.2.2.2.1)) then
 bif (decide (x0.2.2.2.1 ≤ (255:Int))) then
 (spec_l09Range x0.2.2.2.2.1 x0.2.2.2.2.2.1).bind fun t141 =>
 some (t141.1, ())
 else
 some ((false, ()), ())
 else
 some ((false, ()), ())
 else
 some ((false, ()), ())
 else
 some ((false, ()), ())
 else
 bif (decide (x0.1 = (2:Int))) then
 bif (decide (x0.1 = (2:Int))) then
 (spec_l10Twins k x0.2.1 x0.2.2.1).bind fun t142 =>
 some (t142.1, ())
 else
 bif (decide (x0.1 = (5:Int))) then
 (spec_l05In x0.2.2.2.2.2.2.1 (63:Int)).bind fun t143 =>
 some (t143.1, ())
 else
 bif (decide (x0.1 = (7:Int))) then
 bif (decide ((1:Int) ≤ x0.2.2.2.2.2.2.1)) then
 some (((decide (x0.2.2.2.2.2.2.1 ≤ (4:Int))), ()), ())
 else
 some ((false, ()), ())
 else
 some ((true, ()), ())
 else
 bif (decide (x0.1 = (3:Int))) then
 (spec_l10Twins k x0.2.1 x0.2.2.1).bind fun t144 =>
 some (t144.1, ())
 else
 bif (decide (x0.1 = (5:Int))) then
 (spec_l05In x0.2.2.2.2.2.2.1 (63:Int)).bind fun t145 =>
 some (t145.1, ())
 else
 bif (decide (x0.1 = (7:Int))) then
 bif (decide ((1:Int) ≤ x0.2.2.2.2.2.2.1)) then
 some (((decide (x0.2.2.2.2.2.2.1 ≤ (4:Int))), ()), ())
 else
 some ((false, ()), ())
 else
 some ((true, ()), ())
 else
 bif (decide (x0.1 = (1:Int))) then
 (spec_PrefixOk k x0.2.1).bind fun t146 =>
 bif t146.1.1 then
 (spec_PrefixOk k x0.2.2.1).bind fun t147 =>
 bif t147.1.1 then
 bif (decide ((-1 : Int) ≤ x0.2.2.2.1)) then
 bif (decide (x0.2.2.2.1 ≤ (255:Int))) then
 (spec_l09Range x0.2.2.2.2.1 x0.2.2.2.2.2.1).bind fun t148 =>
 some (t148.1, ())
 else
 some ((false, ()), ())
 else
 some ((false, ()), ())
 else
 some ((false, ()), ())
 else
 some ((false, ()), ())
 else
 bif (decide (x0.1 = (2:Int))) then
 bif (decide (x0.1 = (2:Int))) then
 (spec_l10Twins k x0.2.1 x0.2.2.1).bind fun t149 =>
 some (t149.1, ())
 else
 bif (decide (x0.1 = (5:Int))) then
 (spec_l05In x0.2.2.2.2.2.2.1 (63:Int)).bind fun t150 =>
 some (t150.1, ())
 else
 bif (decide (x0.1 = (7:Int))) then
 bif (decide ((1:Int) ≤ x0.2.2.2.2.2.2.1)) then
 some (((decide (x0.2.2.2.2.2.2.1 ≤ (4:Int))), ()), ())
 else
 some ((false, ()), ())
 else
 some ((true, ()), ())
 else
 bif (decide (x0.1 = (3:Int))) then
 (spec_l10Twins k x0.2.1 x0.2.2.1).bind fun t151 =>
 some (t151.1, ())
 else
 bif (decide (x0.1 = (5:Int))) then
 (spec_l05In x0.2.2.2.2.2.2.1 (63:Int)).bind fun t152 =>
 some (t152.1, ())
 else
 bif (decide (x0.1 = (7:Int))) then
 bif (decide ((1:Int) ≤ x0.2.2.2.2.2.2.1)) then
 some (((decide (x0.2.2.2.2.2.2.1 ≤ (4:Int))), ()), ())
 else
 some ((false, ()), ())
 else
 some ((true, ()), ())
 else
 some ((false, ()), ())
 else
 bif (!(decide (x0.1 = (1:Int)))) then
 bif (decide (x0.1 = (1:Int))) then
 (spec_PrefixOk k x0.2.1).bind fun t153 =>
 bif t153.1.1 then
 (spec_PrefixOk k x0.2.2.1).bind fun t154 =>
 bif t154.1.1 then
 bif (decide ((-1 : Int) ≤ x0.2.2.2.1)) then
 bif (decide (x0.2.2.2.1 ≤ (255:Int))) then
 (spec_l09Range x0.2.2.2.2.1 x0.2.2.2.2.2.1).bind fun t155 =>
 some (t155.1, ())
 else
 some ((false, ()), ())
 else
 some ((false, ()), ())
 else
 some ((false, ()), ())
 else
 some ((false, ()), ())
 else
 bif (decide (x0.1 = (2:Int))) then
 bif (decide (x0.1 = (2:Int))) then
 (spec_l10Twins k x0.2.1 x0.2.2.1).bind fun t156 =>
 some (t156.1, ())
 else
 bif (decide (x0.1 = (5:Int))) then
 (spec_l05In x0.2.2.2.2.2.2.1 (63:Int)).bind fun t157 =>
 some (t157.1, ())
 else
 bif (decide (x0.1 = (7:Int))) then
 bif (decide ((1:Int) ≤ x0.2.2.2.2.2.2.1)) then
 some (((decide (x0.2.2.2.2.2.2.1 ≤ (4:Int))), ()), ())
 else
 some ((false, ()), ())
 else
 some ((true, ()), ())
 else
 bif (decide (x0.1 = (3:Int))) then
 (spec_l10Twins k x0.2.1 x0.2.2.1).bind fun t158 =>
 some (t158.1, ())
 else
 bif (decide (x0.1 = (5:Int))) then
 (spec_l05In x0.2.2.2.2.2.2.1 (63:Int)).bind fun t159 =>
 some (t159.1, ())
 else
 bif (decide (x0.1 = (7:Int))) then
 bif (decide ((1:Int) ≤ x0.2.2.2.2.2.2.1)) then
 some (((decide (x0.2.2.2.2.2.2.1 ≤ (4:Int))), ()), ())
 else
 some ((false, ()), ())
 else
 some ((true, ()), ())
 else
 bif (decide (x0.1 = (1:Int))) then
 (spec_PrefixOk k x0.2.1).bind fun t160 =>
 bif t160.1.1 then
 (spec_PrefixOk k x0.2.2.1).bind fun t161 =>
 bif t161.1.1 then
 bif (decide ((-1 : Int) ≤ x0.2.2.2.1)) then
 bif (decide (x0.2.2.2.1 ≤ (255:Int))) then
 (spec_l09Range x0.2.2.2.2.1 x0.2.2.2.2.2.1).bind fun t162 =>
 some (t162.1, ())
 else
 some ((false, ()), ())
 else
 some ((false, ()), ())
 else
 some ((false, ()), ())
 else
 some ((false, ()), ())
 else
 bif (decide (x0.1 = (2:Int))) then
 bif (decide (x0.1 = (2:Int))) then
 (spec_l10Twins k x0.2.1 x0.2.2.1).bind fun t163 =>
 some (t163.1, ())
 else
 bif (decide (x0.1 = (5:Int))) then
 (spec_l05In x0.2.2.2.2.2.2.1 (63:Int)).bind fun t164 =>
 some (t164.1, ())
 else
 bif (decide (x0.1 = (7:Int))) then
 bif (decide ((1:Int) ≤ x0.2.2.2.2.2.2.1)) then
 some (((decide (x0.2.2.2.2.2.2.1 ≤ (4:Int))), ()), ())
 else
 some ((false, ()), ())
 else
 some ((true, ()), ())
 else
 bif (decide (x0.1 = (3:Int))) then
 (spec_l10Twins k x0.2.1 x0.2.2.1).bind fun t165 =>
 some (t165.1, ())
 else
 bif (decide (x0.1 = (5:Int))) then
 (spec_l05In x0.2.2.2.2.2.2.1 (63:Int)).bind fun t166 =>
 some (t166.1, ())
 else
 bif (decide (x0.1 = (7:Int))) then
 bif (decide ((1:Int) ≤ x0.2.2.2.2.2.2.1)) then
 some (((decide (x0.2.2.2.2.2.2.1 ≤ (4:Int))), ()), ())
 else
 some ((false, ()), ())
 else
 some ((true, ()), ())
 else
 some ((false, ()), ())
 else
 some ((false, ()), ())
 else
 some ((false, ()), ())
 else
 bif (!(decide (x0.1 = (7:Int)))) then
 bif (!(!(decide (x0.2.2.2.2.2.2.1 = (0:Int))))) then
 bif (!(decide (x0.1 = (1:Int)))) then
 bif (decide (x0.1 = (1:Int))) then
 (spec_PrefixOk k x0.2.1).bind fun t167 =>
 bif t167.1.1 then
 (spec_PrefixOk k x0.2.2.1).bind fun t168 =>
 bif t168.1.1 then
 bif (decide ((-1 : Int) ≤ x0.2.2.2.1)) then
 bif (decide (x0.2.2.2.1 ≤ (255:Int))) then
 (spec_l09Range x0.2.2.2.2.1 x0.2.2.2.2.2.1).bind fun t169 =>
 some (t169.1, ())
 else
 some ((false, ()), ())
 else
 some ((false, ()), ())
 else
 some ((false, ()), ())
 else
 some ((false, ()), ())
 else
 bif (decide (x0.1 = (2:Int))) then
 bif (decide (x0.1 = (2:Int))) then
 (spec_l10Twins k x0.2.1 x0.2.2.1).bind fun t170 =>
 some (t170.1, ())
 else
 bif (decide (x0.1 = (5:Int))) then
 (spec_l05In x0.2.2.2.2.2.2.1 (63:Int)).bind fun t171 =>
 some (t171.1, ())
 else
 bif (decide (x0.1 = (7:Int))) then
 bif (decide ((1:Int) ≤ x0.2.2.2.2.2.2.1)) then
 some (((decide (x0.2.2.2.2.2.2.1 ≤ (4:Int))), ()), ())
 else
 some ((false, ()), ())
 else
 some ((true, ()), ())
 else
 bif (decide (x0.1 = (3:Int))) then
 (spec_l10Twins k x0.2.1 x0.2.2.1).bind fun t172 =>
 some (t172.1, ())
 else
 bif (decide (x0.1 = (5:Int))) then
 (spec_l05In x0.2.2.2.2.2.2.1 (63:Int)).bind fun t173 =>
 some (t173.1, ())
 else
 bif (decide (x0.1 = (7:Int))) then
 bif (decide ((1:Int) ≤ x0.2.2.2.2.2.2.1)) then
 some (((decide (x0.2.2.2.2.2.2.1 ≤ (4:Int))), ()), ())
 else
 some ((false, ()), ())
 else
 some ((true, ()), ())
 else
 bif (decide (x0.1 = (1:Int))) then
 (spec_PrefixOk k x0.2.1).bind fun t174 =>
 bif t174.1.1 then
 (spec_PrefixOk k x0.2.2.1).bind fun t175 =>
 bif t175.1.1 then
 bif (decide ((-1 : Int) ≤ x0.2.2.2.1)) then
 bif (decide (x0.2.2.2.1 ≤ (255:Int))) then
 (spec_l09Range x0.2.2.2.2.1 x0.2.2.2.2.2.1).bind fun t176 =>
 some (t176.1, ())
 else
 some ((false, ()), ())
 else
 some ((false, ()), ())
 else
 some ((false, ()), ())
 else
 some ((false, ()), ())
 else
 bif (decide (x0.1 = (2:Int))) then
 bif (decide (x0.1 = (2:Int))) then
 (spec_l10Twins k x0.2.1 x0.2.2.1).bind fun t177 =>
 some (t177.1, ())
 else
 bif (decide (x0.1 = (5:Int))) then
 (spec_l05In x0.2.2.2.2.2.2.1 (63:Int)).bind fun t178 =>
 some (t178.1, ())
 else
 bif (decide (x0.1 = (7:Int))) then
 bif (decide ((1:Int) ≤ x0.2.2.2.2.2.2.1)) then
 some (((decide (x0.2.2.2.2.2.2.1 ≤ (4:Int))), ()), ())
 else
 some ((false, ()), ())
 else
 some ((true, ()), ())
 else
 bif (decide (x0.1 = (3:Int))) then
 (spec_l10Twins k x0.2.1 x0.2.2.1).bind fun t179 =>
 some (t179.1, ())
 else
 bif (decide (x0.1 = (5:Int))) then
 (spec_l05In x0.2.2.2.2.2.2.1 (63:Int)).bind fun t180 =>
 some (t180.1, ())
 else
 bif (decide (x0.1 = (7:Int))) then
 bif (decide ((1:Int) ≤ x0.2.2.2.2.2.2.1)) then
 some (((decide (x0.2.2.2.2.2.2.1 ≤ (4:Int))), ()), ())
 else
 some ((false, ()), ())
 else
 some ((true, ()), ())
 else
 some ((false, ()), ())
 else
 bif (!(decide (x0.1 = (1:Int)))) then
 bif (decide (x0.1 = (1:Int))) then
 (spec_PrefixOk k x0.2.1).bind fun t181 =>
 bif t181.1.1 then
 (spec_PrefixOk k x0.2.2.1).bind fun t182 =>
 bif t182.1.1 then
 bif (decide ((-1 : Int) ≤ x0.2.2.2.1)) then
 bif (decide (x0.2.2.2.1 ≤ (255:Int))) then
 (spec_l09Range x0.2.2.2.2.1 x0.2.2.2.2.2.1).bind fun t183 =>
 some (t183.1, ())
 else
 some ((false, ()), ())
 else
 some ((false, ()), ())
 else
 some ((false, ()), ())
 else
 some ((false, ()), ())
 else
 bif (decide (x0.1 = (2:Int))) then
 bif (decide (x0.1 = (2:Int))) then
 (spec_l10Twins k x0.2.1 x0.2.2.1).bind fun t184 =>
 some (t184.1, ())
 else
 bif (decide (x0.1 = (5:Int))) then
 (spec_l05In x0.2.2.2.2.2.2.1 (63:Int)).bind fun t185 =>
 some (t185.1, ())
 else
 bif (decide (x0.1 = (7:Int))) then
 bif (decide ((1:Int) ≤ x0.2.2.2.2.2.2.1)) then
 some (((decide (x0.2.2.2.2.2.2.1 ≤ (4:Int))), ()), ())
 else
 some ((false, ()), ())
 else
 some ((true, ()), ())
 else
 bif (decide (x0.1 = (3:Int))) then
 (spec_l10Twins k x0.2.1 x0.2.2.1).bind fun t186 =>
 some (t186.1, ())
 else
 bif (decide (x0.1 = (5:Int))) then
 (spec_l05In x0.2.2.2.2.2.2.1 (63:Int)).bind fun t187 =>
 some (t187.1, ())
 else
 bif (decide (x0.1 = (7:Int))) then
 bif (decide ((1:Int) ≤ x0.2.2.2.2.2.2.1)) then
 some (((decide (x0.2.2.2.2.2.2.1 ≤ (4:Int))), ()), ())
 else
 some ((false, ()), ())
 else
 some ((true, ()), ())
 else
 bif (decide (x0.1 = (1:Int))) then
 (spec_PrefixOk k x0.2.1).bind fun t188 =>
 bif t188.1.1 then
 (spec_PrefixOk k x0.2.2.1).bind fun t189 =>
 bif t189.1.1 then
 bif (decide ((-1 : Int) ≤ x0.2.2.2.1)) then
 bif (decide (x0.2.2.2.1 ≤ (255:Int))) then
 (spec_l09Range x0.2.2.2.2.1 x0.2.2.2.2.2.1).bind fun t190 =>
 some (t190.1, ())
 else
 some ((false, ()), ())
 else
 some ((false, ()), ())
 else
 some ((false, ()), ())
 else
 some ((false, ()), ())
 else
 bif (decide (x0.1 = (2:Int))) then
 bif (decide (x0.1 = (2:Int))) then
 (spec_l10Twins k x0.2.1 x0.2.2.1).bind fun t191 =>
 some (t191.1, ())
 else
 bif (decide (x0.1 = (5:Int))) then
 (spec_l05In x0.2.2.2.2.2.2.1 (63:Int)).bind fun t192 =>
 some (t192.1, ())
 else
 bif (decide (x0.1 = (7:Int))) then
 bif (decide ((1:Int) ≤ x0.2.2.2.2.2.2.1)) then
 some (((decide (x0.2.2.2.2.2.2.1 ≤ (4:Int))), ()), ())
 else
 some ((false, ()), ())
 else
 some ((true, ()), ())
 else
 bif (decide (x0.1 = (3:Int))) then
 (spec_l10Twins k x0.2.1 x0.2.2.1).bind fun t193 =>
 some (t193.1, ())
 else
 bif (decide (x0.1 = (5:Int))) then
 (spec_l05In x0.2.2.2.2.2.2.1 (63:Int)).bind fun t194 =>
 some (t194.1, ())
 else
 bif (decide (x0.1 = (7:Int))) then
 bif (decide ((1:Int) ≤ x0.2.2.2.2.2.2.1)) then
 some (((decide (x0.2.2.2.2.2.2.1 ≤ (4:Int))), ()), ())
 else
 some ((false, ()), ())
 else
 some ((true, ()), ())
 else
 some ((false, ()), ())
 else
 bif (!(decide (x0.1 < (1:Int)))) then
 bif (decide ((7:Int) < x0.1)) then
 some ((false, ()), ())
 else
 bif (!(decide (x0.1 = (1:Int)))) then
 bif (!(!(decide (x0.2.2.2.1 = (0:Int))))) then
 bif (!(!(decide (x0.2.2.2.2.1 = (0:Int))))) then
 bif (!(!(decide (x0.2.2.2.2.2.1 = (0:Int))))) then
 bif (!(decide (x0.1 = (1:Int)))) then
 bif (decide (x0.1 = (1:Int))) then
 (spec_PrefixOk k x0.2.1).bind fun t195 =>
 bif t195.1.1 then
 (spec_PrefixOk k x0.2.2.1).bind fun t196 =>
 bif t196.1.1 then
 bif (decide ((-1 : Int) ≤ x0.2.2.2.1)) then
 bif (decide (x0.2.2.2.1 ≤ (255:Int))) then
 (spec_l09Range x0.2.2.2.2.1 x0.2.2.2.2.2.1).bind fun t197 =>
 some (t197.1, ())
 else
 some ((false, ()), ())
 else
 some ((false, ()), ())
 else
 some ((false, ()), ())
 else
 some ((false, ()), ())
 else
 bif (decide (x0.1 = (2:Int))) then
 bif (decide (x0.1 = (2:Int))) then
 (spec_l10Twins k x0.2.1 x0.2.2.1).bind fun t198 =>
 some (t198.1, ())
 else
 bif (decide (x0.1 = (5:Int))) then
 (spec_l05In x0.2.2.2.2.2.2.1 (63:Int)).bind fun t199 =>
 some (t199.1, ())
 else
 bif (decide (x0.1 = (7:Int))) then
 bif (decide ((1:Int) ≤ x0.2.2.2.2.2.2.1)) then
 some (((decide (x0.2.2.2.2.2.2.1 ≤ (4:Int))), ()), ())
 else
 some ((false, ()), ())
 else
 some ((true, ()), ())
 else
 bif (decide (x0.1 = (3:Int))) then
 (spec_l10Twins k x0.2.1 x0.2.2.1).bind fun t200 =>
 some (t200.1, ())
 else
 bif (decide (x0.1 = (5:Int))) then
 (spec_l05In x0.2.2.2.2.2.2.1 (63:Int)).bind fun t201 =>
 some (t201.1, ())
 else
 bif (decide (x0.1 = (7:Int))) then
 bif (decide ((1:Int) ≤ x0.2.2.2.2.2.2.1)) then
 some (((decide (x0.2.2.2.2.2.2.1 ≤ (4:Int))), ()), ())
 else
 some ((false, ()), ())
 else
 some ((true, ()), ())
 else
 bif (decide (x0.1 = (1:Int))) then
 (spec_PrefixOk k x0.2.1).bind fun t202 =>
 bif t202.1.1 then
 (spec_PrefixOk k x0.2.2.1).bind fun t203 =>
 bif t203.1.1 then
 bif (decide ((-1 : Int) ≤ x0.2.2.2.1)) then
 bif (decide (x0.2.2.2.1 ≤ (255:Int))) then
 (spec_l09Range x0.2.2.2.2.1 x0.2.2.2.2.2.1).bind fun t204 =>
 some (t204.1, ())
 else
 some ((false, ()), ())
 else
 some ((false, ()), ())
 else
 some ((false, ()), ())
 else
 some ((false, ()), ())
 else
 bif (decide (x0.1 = (2:Int))) then
 bif (decide (x0.1 = (2:Int))) then
 (spec_l10Twins k x0.2.1 x0.2.2.1).bind fun t205 =>
 some (t205.1, ())
 else
 bif (decide (x0.1 = (5:Int))) then
 (spec_l05In x0.2.2.2.2.2.2.1 (63:Int)).bind fun t206 =>
 some (t206.1, ())
 else
 bif (decide (x0.1 = (7:Int))) then
 bif (decide ((1:Int) ≤ x0.2.2.2.2.2.2.1)) then
 some (((decide (x0.2.2.2.2.2.2.1 ≤ (4:Int))), ()), ())
 else
 some ((false, ()), ())
 else
 some ((true, ()), ())
 else
 bif (decide (x0.1 = (3:Int))) then
 (spec_l10Twins k x0.2.1 x0.2.2.1).bind fun t207 =>
 some (t207.1, ())
 else
 bif (decide (x0.1 = (5:Int))) then
 (spec_l05In x0.2.2.2.2.2.2.1 (63:Int)).bind fun t208 =>
 some (t208.1, ())
 else
 bif (decide (x0.1 = (7:Int))) then
 bif (decide ((1:Int) ≤ x0.2.2.2.2.2.2.1)) then
 some (((decide (x0.2.2.2.2.2.2.1 ≤ (4:Int))), ()), ())
 else
 some ((false, ()), ())
 else
 some ((true, ()), ())
 else
 some ((false, ()), ())
 else
 some ((false, ()), ())
 else
 some ((false, ()), ())
 else
 bif (!(decide (x0.1 = (1:Int)))) then
 bif (decide (x0.1 = (1:Int))) then
 (spec_PrefixOk k x0.2.1).bind fun t209 =>
 bif t209.1.1 then
 (spec_PrefixOk k x0.2.2.1).bind fun t210 =>
 bif t210.1.1 then
 bif (decide ((-1 : Int) ≤ x0.2.2.2.1)) then
 bif (decide (x0.2.2.2.1 ≤ (255:Int))) then
 (spec_l09Range x0.2.2.2.2.1 x0.2.2.2.2.2.1).bind fun t211 =>
 some (t211.1, ())
 else
 some ((false, ()), ())
 else
 some ((false, ()), ())
 else
 some ((false, ()), ())
 else
 some ((false, ()), ())
 else
 bif (decide (x0.1 = (2:Int))) then
 bif (decide (x0.1 = (2:Int))) then
 (spec_l10Twins k x0.2.1 x0.2.2.1).bind fun t212 =>
 some (t212.1, ())
 else
 bif (decide (x0.1 = (5:Int))) then
 (spec_l05In x0.2.2.2.2.2.2.1 (63:Int)).bind fun t213 =>
 some (t213.1, ())
 else
 bif (decide (x0.1 = (7:Int))) then
 bif (decide ((1:Int) ≤ x0.2.2.2.2.2.2.1)) then
 some (((decide (x0.2.2.2.2.2.2.1 ≤ (4:Int))), ()), ())
 else
 some ((false, ()), ())
 else
 some ((true, ()), ())
 else
 bif (decide (x0.1 = (3:Int))) then
 (spec_l10Twins k x0.2.1 x0.2.2.1).bind fun t214 =>
 some (t214.1, ())
 else
 bif (decide (x0.1 = (5:Int))) then
 (spec_l05In x0.2.2.2.2.2.2.1 (63:Int)).bind fun t215 =>
 some (t215.1, ())
 else
 bif (decide (x0.1 = (7:Int))) then
 bif (decide ((1:Int) ≤ x0.2.2.2.2.2.2.1)) then
 some (((decide (x0.2.2.2.2.2.2.1 ≤ (4:Int))), ()), ())
 else
 some ((false, ()), ())
 else
 some ((true, ()), ())
 else
 bif (decide (x0.1 = (1:Int))) then
 (spec_PrefixOk k x0.2.1).bind fun t216 =>
 bif t216.1.1 then
 (spec_PrefixOk k x0.2.2.1).bind fun t217 =>
 bif t217.1.1 then
 bif (decide ((-1 : Int) ≤ x0.2.2.2.1)) then
 bif (decide (x0.2.2.2.1 ≤ (255:Int))) then
 (spec_l09Range x0.2.2.2.2.1 x0.2.2.2.2.2.1).bind fun t218 =>
 some (t218.1, ())
 else
 some ((false, ()), ())
 else
 some ((false, ()), ())
 else
 some ((false, ()), ())
 else
 some ((false, ()), ())
 else
 bif (decide (x0.1 = (2:Int))) then
 bif (decide (x0.1 = (2:Int))) then
 (spec_l10Twins k x0.2.1 x0.2.2.1).bind fun t219 =>
 some (t219.1, ())
 else
 bif (decide (x0.1 = (5:Int))) then
 (spec_l05In x0.2.2.2.2.2.2.1 (63:Int)).bind fun t220 =>
 some (t220.1, ())
 else
 bif (decide (x0.1 = (7:Int))) then
 bif (decide ((1:Int) ≤ x0.2.2.2.2.2.2.1)) then
 some (((decide (x0.2.2.2.2.2.2.1 ≤ (4:Int))), ()), ())
 else
 some ((false, ()), ())
 else
 some ((true, ()), ())
 else
 bif (decide (x0.1 = (3:Int))) then
 (spec_l10Twins k x0.2.1 x0.2.2.1).bind fun t221 =>
 some (t221.1, ())
 else
 bif (decide (x0.1 = (5:Int))) then
 (spec_l05In x0.2.2.2.2.2.2.1 (63:Int)).bind fun t222 =>
 some (t222.1, ())
 else
 bif (decide (x0.1 = (7:Int))) then
 bif (decide ((1:Int) ≤ x0.2.2.2.2.2.2.1)) then
 some (((decide (x0.2.2.2.2.2.2.1 ≤ (4:Int))), ()), ())
 else
 some ((false, ()), ())
 else
 some ((true, ()), ())
 else
 some ((false, ()), ())
def spec_ChainOk_s4 (k : Nat) (rec : (Unit × ((List D_Module) × (Int × Unit))) → Option ((Unit × (Bool × Unit)) ⊕ (Unit × Unit))) (v : (Unit × ((List D_Module) × (Int × Unit)))) : Option ((Unit × (Bool × Unit)) ⊕ (Unit × Unit)) :=
 bif (decide (v.2.2.1 < (((List.length v.2.1) : Nat) : Int))) then
 bif ((decide ((0:Int) ≤ v.2.2.1)) && (decide (v.2.2.1 < (((List.length v.2.1) : Nat) : Int)))) then
 bif (decide ((Int.toNat v.2.2.1) < (List.length v.2.1))) then
 (spec_ModuleOk k (List.getD v.2.1 (Int.toNat v.2.2.1) z_Module)).bind fun t1 =>
 bif (!t1.1.1) then
 some (Sum.inl ((), false, ()))
 else
 rec ((), v.2.1, (IntKind.wrap .i64 (v.2.2.1 + (1:Int))), ())
 else none
 else none
 else
 some (Sum.inr ((), ()))
def spec_ChainOk (k : Nat) (x0 : (List D_Module)) : Option ((Bool × Unit) × Unit) :=
 bif (decide ((8:Int) < (((List.length x0) : Nat) : Int))) then
 some ((false, ()), ())
 else
 (iter (spec_ChainOk_s4 k) k ((), x0, (0:Int), ())).bind fun o1 =>
 Sum.elim (fun a2 =>
 some (a2.2, ()))
 (fun b3 =>
 some ((true, ()), ())) o1
def spec_CmdOk (k : Nat) (x0 : D_Cmd) : Option ((Bool × Unit) × Unit) :=
 bif (decide (x0.1 = (1:Int))) then
 (spec_l22None x0 true true false false false).bind fun t1 =>
 bif t1.1.1 then
 bif (decide ((1:Int) ≤ x0.2.1)) then
 bif (decide (x0.2.1 ≤ (8:Int))) then
 bif (decide ((1:Int) ≤ x0.2.2.1)) then
 some (((decide (x0.2.2.1 ≤ (10:Int))), ()), ())
 else
 some ((false, ()), ())
 else
 some ((false, ()), ())
 else
 some ((false, ()), ())
 else
 some ((false, ()), ())
 else
 bif (decide (x0.1 = (2:Int))) then
 (spec_l22None x0 true false false false false).bind fun t2 =>
 bif t2.1.1 then
 bif (decide ((1:Int) ≤ x0.2.1)) then
 some (((decide (x0.2.1 ≤ (8:Int))), ()), ())
 else
 some ((false, ()), ())
 else
 some ((false, ()), ())
 else
 bif (decide (x0.1 = (3:Int))) then
 (spec_l22None x0 false false true false false).bind fun t3 =>
 bif t3.1.1 then
 (spec_RuleOk k x0.2.2.2.1).bind fun t4 =>
 some (t4.1, ())
 else
 some ((false, ()), ())
 else
 bif (decide (x0.1 = (4:Int))) then
 (spec_l22None x0 true false false false false).bind fun t5 =>
 bif t5.1.1 then
 bif (decide ((1:Int) ≤ x0.2.1)) then
 some (((decide (x0.2.1 ≤ (9999:Int))), ()), ())
 else
 some ((false, ()), ())
 else
 some ((false, ()), ())
 else
 bif (decide (x0.1 = (5:Int))) then
 (spec_l22None x0 false false false true false).bind fun t6 =>
 bif t6.1.1 then
 (spec_LimitsOk x0.2.2.2.2.1).bind fun t7 =>
 some (t7.1, ())
 else
 some ((false, ()), ())
 else
 bif (decide (x0.1 = (6:Int))) then
 (spec_l22None x0 true false false false false).bind fun t8 =>
 bif t8.1.1 then
 (spec_l05In x0.2.1 (1:Int)).bind fun t9 =>
 some (t9.1, ())
 else
 some ((false, ()), ())
 else
 bif (decide (x0.1 = (7:Int))) then
 (spec_l22None x0 true false false false true).bind fun t10 =>
 bif t10.1.1 then
 bif (decide ((1:Int) ≤ x0.2.1)) then
 bif (decide (x0.2.1 ≤ (8:Int))) then
 (spec_ChainOk k x0.2.2.2.2.2.1).bind fun t11 =>
 some (t11.1, ())
 else
 some ((false, ()), ())
 else
 some ((false, ()), ())
 else
 some ((false, ()), ())
 else
 bif (decide (x0.1 = (8:Int))) then
 (spec_l22None x0 true false false false false).bind fun t12 =>
 bif t12.1.1 then
 bif (decide ((1:Int) ≤ x0.2.1)) then
 some (((decide (x0.2.1 ≤ (1000:Int))), ()), ())
 else
 some ((false, ()), ())
 else
 some ((false, ()), ())
 else
 some ((false, ()), ())
def spec_PrefixBytes (k : Nat) (x0 : D_Prefix) : Option (D_cursor × Unit) :=
 (spec_PrefixOk k x0).bind fun t1 =>
 bif (!t1.1.1) then
 some ((([] : List Int), ()), ())
 else
 (spec_l03Any x0).bind fun t2 =>
 bif t2.1.1 then
 some ((([(0:Int)] : List Int), ()), ())
 else
 (spec_AddrBytes x0.1).bind fun t3 =>
 bif (decide ((((1:Nat) + (List.length t3.1.1)) * 1) ≤ (1099511627776:Nat))) then
 bif (decide ((((List.length (([(IntKind.wrap .u8 x0.1.1)] : List Int) ++ t3.1.1)) + (1:Nat)) * 1) ≤ (1099511627776:Nat))) then
 some ((((([(IntKind.wrap .u8 x0.1.1)] : List Int) ++ t3.1.1) ++ ([(IntKind.wrap .u8 x0.2.1)] : List Int)), ()), ())
 else none
 else none
def spec_l22Twos_s2 (rec : (Unit × ((List Int) × ((List Int) × (Int × Unit)))) → Option ((Unit × D_cursor))) (v : (Unit × ((List Int) × ((List Int) × (Int × Unit))))) : Option ((Unit × D_cursor)) :=
 bif (decide (v.2.2.2.1 < (((List.length v.2.2.1) : Nat) : Int))) then
 bif ((decide ((0:Int) ≤ v.2.2.2.1)) && (decide (v.2.2.2.1 < (((List.length v.2.2.1) : Nat) : Int)))) then
 bif (decide ((Int.toNat v.2.2.2.1) < (List.length v.2.2.1))) then
 (spec_Put16 (List.getD v.2.2.1 (Int.toNat v.2.2.2.1) (0:Int))).bind fun t1 =>
 bif (decide ((((List.length v.2.1) + (List.length t1.1.1)) * 1) ≤ (1099511627776:Nat))) then
 rec ((), (v.2.1 ++ t1.1.1), v.2.2.1, (IntKind.wrap .i64 (v.2.2.2.1 + (1:Int))), ())
 else none
 else none
 else none
 else
 some ((), v.2.1, ())
def spec_l22Twos (k : Nat) (x0 : (List Int)) (x1 : (List Int)) : Option (D_cursor × D_cursor) :=
 (iter (spec_l22Twos_s2) k ((), x0, x1, (0:Int), ())).bind fun o1 =>
 some (o1.2, ([] : List Int), ())
def spec_CmdBytes_s29 (k : Nat) (rec : (Unit × (D_Cmd × ((List Int) × (Int × Unit)))) → Option ((Unit × D_cursor))) (v : (Unit × (D_Cmd × ((List Int) × (Int × Unit))))) : Option ((Unit × D_cursor)) :=
 bif (decide (v.2.2.2.1 < (((List.length v.2.1.2.2.2.2.2.1) : Nat) : Int))) then
 bif ((decide ((0:Int) ≤ v.2.2.2.1)) && (decide (v.2.2.2.1 < (((List.length v.2.1.2.2.2.2.2.1) : Nat) : Int)))) then
 bif (decide ((Int.toNat v.2.2.2.1) < (List.length v.2.1.2.2.2.2.2.1))) then
 bif (decide ((((List.length v.2.2.1) + (1:Nat)) * 1) ≤ (1099511627776:Nat))) then
 (spec_PrefixBytes k (List.getD v.2.1.2.2.2.2.2.1 (Int.toNat v.2.2.2.1) z_Module).2.1).bind fun t22 =>
 bif (decide ((((List.length (v.2.2.1 ++ ([(IntKind.wrap .u8 (List.getD v.2.1.2.2.2.2.2.1 (Int.toNat v.2.2.2.1) z_Module).1)] : List Int))) + (List.length t22.1.1)) * 1) ≤ (1099511627776:Nat))) then
 (spec_PrefixBytes k (List.getD v.2.1.2.2.2.2.2.1 (Int.toNat v.2.2.2.1) z_Module).2.2.1).bind fun t23 =>
 bif (decide ((((List.length ((v.2.2.1 ++ ([(IntKind.wrap .u8 (List.getD v.2.1.2.2.2.2.2.1 (Int.toNat v.2.2.2.1) z_Module).1)] : List Int)) ++ t22.1.1)) + (List.length t23.1.1)) * 1) ≤ (1099511627776:Nat))) then
 (spec_l22Twos k (((v.2.2.1 ++ ([(IntKind.wrap .u8 (List.getD v.2.1.2.2.2.2.2.1 (Int.toNat v.2.2.2.1) z_Module).1)] : List Int)) ++ t22.1.1) ++ t23.1.1) ([(List.getD v.2.1.2.2.2.2.2.1 (Int.toNat v.2.2.2.1) z_Module).2.2.2.1, (List.getD v.2.1.2.2.2.2.2.1 (Int.toNat v.2.2.2.1) z_Module).2.2.2.2.1, (List.getD v.2.1.2.2.2.2.2.1 (Int.toNat v.2.2.2.1) z_Module).2.2.2.2.2.1] : List Int)).bind fun t24 =>
 bif (decide ((((List.length t24.1.1) + (1:Nat)) * 1) ≤ (1099511627776:Nat))) then
 rec ((), v.2.1, (t24.1.1 ++ ([(IntKind.wrap .u8 (List.getD v.2.1.2.2.2.2.2.1 (Int.toNat v.2.2.2.1) z_Module).2.2.2.2.2.2.1)] : List Int)), (IntKind.wrap .i64 (v.2.2.2.1 + (1:Int))), ())
 else none
 else none
 else none
 else none
 else none
 else none
 else
 some ((), v.2.2.1, ())
def spec_CmdBytes (k : Nat) (x0 : D_Cmd) : Option (D_cursor × Unit) :=
 (spec_CmdOk k x0).bind fun t1 =>
 bif (!t1.1.1) then
 some ((([] : List Int), ()), ())
 else
 bif (decide (x0.1 = (1:Int))) then
 (spec_Checksum k ([(IntKind.wrap .u8 x0.1), (IntKind.wrap .u8 x0.2.1), (IntKind.wrap .u8 x0.2.2.1)] : List Int)).bind fun t2 =>
 (spec_Put16 t2.1.1).bind fun t3 =>
 bif (decide ((((3:Nat) + (List.length t3.1.1)) * 1) ≤ (1099511627776:Nat))) then
 some (((([(IntKind.wrap .u8 x0.1), (IntKind.wrap .u8 x0.2.1), (IntKind.wrap .u8 x0.2.2.1)] : List Int) ++ t3.1.1), ()), ())
 else none
 else
 bif (decide (x0.1 = (2:Int))) then
 bif (decide (x0.1 = (2:Int))) then
 (spec_Checksum k ([(IntKind.wrap .u8 x0.1), (IntKind.wrap .u8 x0.2.1)] : List Int)).bind fun t4 =>
 (spec_Put16 t4.1.1).bind fun t5 =>
 bif (decide ((((2:Nat) + (List.length t5.1.1)) * 1) ≤ (1099511627776:Nat))) then
 some (((([(IntKind.wrap .u8 x0.1), (IntKind.wrap .u8 x0.2.1)] : List Int) ++ t5.1.1), ()), ())
 else none
 else
 bif (decide (x0.1 = (4:Int))) then
 bif (decide (x0.1 = (4:Int))) then
 (spec_Put16 x0.2.1).bind fun t6 =>
 bif (decide ((((1:Nat) + (List.length t6.1.1)) * 1) ≤ (1099511627776:Nat))) then
 (spec_Checksum k (([(IntKind.wrap .u8 x0.1)] : List Int) ++ t6.1.1)).bind fun t7 =>
 (spec_Put16 t7.1.1).bind fun t8 =>
 bif (decide ((((List.length (([(IntKind.wrap .u8 x0.1)] : List Int) ++ t6.1.1)) + (List.length t8.1.1)) * 1) ≤ (1099511627776:Nat))) then
 some ((((([(IntKind.wrap .u8 x0.1)] : List Int) ++ t6.1.1) ++ t8.1.1), ()), ())
 else none
 else none
 else
 bif (decide (x0.1 = (3:Int))) then
 (spec_Put16 x0.2.2.2.1.1).bind fun t9 =>
 bif (decide ((((1:Nat) + (List.length t9.1.1)) * 1) ≤ (1099511627776:Nat))) then
 (spec_PrefixBytes k x0.2.2.2.1.2.1).bind fun t10 =>
 bif (decide ((((List.length (([(IntKind.wrap .u8 x0.1)] : List Int) ++ t9.1.1)) + (List.length t10.1.1)) * 1) ≤ (1099511627776:Nat))) then
 (spec_PrefixBytes k x0.2.2.2.1.2.2.1).bind fun t11 =>
 bif (decide ((((List.length ((([(IntKind.wrap .u8 x0.1)] : List Int) ++ t9.1.1) ++ t10.1.1)) + (List.length t11.1.1)) * 1) ≤ (1099511627776:Nat))) then
 (spec_l22Twos k (((([(IntKind.wrap .u8 x0.1)] : List Int) ++ t9.1.1) ++ t10.1.1) ++ t11.1.1) ([x0.2.2.2.1.2.2.2.1, x0.2.2.2.1.2.2.2.2.1, x0.2.2.2.1.2.2.2.2.2.1, x0.2.2.2.1.2.2.2.2.2.2.1, x0.2.2.2.1.2.2.2.2.2.2.2.1] : List Int)).bind fun t12 =>
 bif (decide ((((List.length t12.1.1) + (3:Nat)) * 1) ≤ (1099511627776:Nat))) then
 (spec_Checksum k (t12.1.1 ++ ([(IntKind.wrap .u8 x0.2.2.2.1.2.2.2.2.2.2.2.2.1), (IntKind.wrap .u8 x0.2.2.2.1.2.2.2.2.2.2.2.2.2.1), (IntKind.wrap .u8 x0.2.2.2.1.2.2.2.2.2.2.2.2.2.2.1)] : List Int))).bind fun t13 =>
 (spec_Put16 t13.1.1).bind fun t14 =>
 bif (decide ((((List.length (t12.1.1 ++ ([(IntKind.wrap .u8 x0.2.2.2.1.2.2.2.2.2.2.2.2.1), (IntKind.wrap .u8 x0.2.2.2.1.2.2.2.2.2.2.2.2.2.1), (IntKind.wrap .u8 x0.2.2.2.1.2.2.2.2.2.2.2.2.2.2.1)] : List Int))) + (List.length t14.1.1)) * 1) ≤ (1099511627776:Nat))) then
 some ((((t12.1.1 ++ ([(IntKind.wrap .u8 x0.2.2.2.1.2.2.2.2.2.2.2.2.1), (IntKind.wrap .u8 x0.2.2.2.1.2.2.2.2.2.2.2.2.2.1), (IntKind.wrap .u8 x0.2.2.2.1.2.2.2.2.2.2.2.2.2.2.1)] : List Int)) ++ t14.1.1), ()), ())
 else none
 else none
 else none
 else none
 else none
 else
 bif (decide (x0.1 = (5:Int))) then
 (spec_Put32 x0.2.2.2.2.1.2.1).bind fun t15 =>
 bif (decide ((((2:Nat) + (List.length t15.1.1)) * 1) ≤ (1099511627776:Nat))) then
 (spec_Put32 x0.2.2.2.2.1.2.2.1).bind fun t16 =>
 bif (decide ((((List.length (([(IntKind.wrap .u8 x0.1), (IntKind.wrap .u8 x0.2.2.2.2.1.1)] : List Int) ++ t15.1.1)) + (List.length t16.1.1)) * 1) ≤ (1099511627776:Nat))) then
 (spec_Put32 x0.2.2.2.2.1.2.2.2.1).bind fun t17 =>
 bif (decide ((((List.length ((([(IntKind.wrap .u8 x0.1), (IntKind.wrap .u8 x0.2.2.2.2.1.1)] : List Int) ++ t15.1.1) ++ t16.1.1)) + (List.length t17.1.1)) * 1) ≤ (1099511627776:Nat))) then
 bif x0.2.2.2.2.1.2.2.2.2.1 then
 bif (decide ((((List.length (((([(IntKind.wrap .u8 x0.1), (IntKind.wrap .u8 x0.2.2.2.2.1.1)] : List Int) ++ t15.1.1) ++ t16.1.1) ++ t17.1.1)) + (1:Nat)) * 1) ≤ (1099511627776:Nat))) then
 (spec_Checksum k ((((([(IntKind.wrap .u8 x0.1), (IntKind.wrap .u8 x0.2.2.2.2.1.1)] : List Int) ++ t15.1.1) ++ t16.1.1) ++ t17.1.1) ++ ([(1:Int)] : List Int))).bind fun t18 =>
 (spec_Put16 t18.1.1).bind fun t19 =>
 bif (decide ((((List.length ((((([(IntKind.wrap .u8 x0.1), (IntKind.wrap .u8 x0.2.2.2.2.1.1)] : List Int) ++ t15.1.1) ++ t16.1.1) ++ t17.1.1) ++ ([(1:Int)] : List Int))) + (List.length t19.1.1)) * 1) ≤ (1099511627776:Nat))) then
 some (((((((([(IntKind.wrap .u8 x0.1), (IntKind.wrap .u8 x0.2.2.2.2.1.1)] : List Int) ++ t15.1.1) ++ t16.1.1) ++ t17.1.1) ++ ([(1:Int)] : List Int)) ++ t19.1.1), ()), ())
 else none
 else none
 else
 bif (decide ((((List.length (((([(IntKind.wrap .u8 x0.1), (IntKind.wrap .u8 x0.2.2.2.2.1.1)] : List Int) ++ t15.1.1) ++ t16.1.1) ++ t17.1.1)) + (1:Nat)) * 1) ≤ (1099511627776:Nat))) then
 (spec_Checksum k ((((([(IntKind.wrap .u8 x0.1), (IntKind.wrap .u8 x0.2.2.2.2.1.1)] : List Int) ++ t15.1.1) ++ t16.1.1) ++ t17.1.1) ++ ([(0:Int)] : List Int))).bind fun t20 =>
 (spec_Put16 t20.1.1).bind fun t21 =>
 bif (decide ((((List.length ((((([(IntKind.wrap .u8 x0.1), (IntKind.wrap .u8 x0.2.2.2.2.1.1)] : List Int) ++ t15.1.1) ++ t16.1.1) ++ t17.1.1) ++ ([(0:Int)] : List Int))) + (List.length t21.1.1)) * 1) ≤ (1099511627776:Nat))) then
 some (((((((([(IntKind.wrap .u8 x0.1), (IntKind.wrap .u8 x0.2.2.2.2.1.1)] : List Int) ++ t15.1.1) ++ t16.1.1) ++ t17.1.1) ++ ([(0:Int)] : List Int)) ++ t21.1.1), ()), ())
 else none
 else none
 else none
 else none
 else none
 else
 bif (decide (x0.1 = (7:Int))) then
 (iter (spec_CmdBytes_s29 k) k ((), x0, ([(IntKind.wrap .u8 x0.1), (IntKind.wrap .u8 x0.2.1), (IntKind.wrap .u8 (((List.length x0.2.2.2.2.2.1) : Nat) : Int))] : List Int), (0:Int), ())).bind fun o22 =>
 (spec_Checksum k o22.2.1).bind fun t23 =>
 (spec_Put16 t23.1.1).bind fun t24 =>
 bif (decide ((((List.length o22.2.1) + (List.length t24.1.1)) * 1) ≤ (1099511627776:Nat))) then
 some (((o22.2.1 ++ t24.1.1), ()), ())
 else none
 else
 (spec_Checksum k ([(IntKind.wrap .u8 x0.1)] : List Int)).bind fun t25 =>
 (spec_Put16 t25.1.1).bind fun t26 =>
 bif (decide ((((1:Nat) + (List.length t26.1.1)) * 1) ≤ (1099511627776:Nat))) then
 some (((([(IntKind.wrap .u8 x0.1)] : List Int) ++ t26.1.1), ()), ())
 else none
 else
 bif (decide (x0.1 = (8:Int))) then
 (spec_Put16 x0.2.1).bind fun t27 =>
 bif (decide ((((1:Nat) + (List.length t27.1.1)) * 1) ≤ (1099511627776:Nat))) then
 (spec_Checksum k (([(IntKind.wrap .u8 x0.1)] : List Int) ++ t27.1.1)).bind fun t28 =>
 (spec_Put16 t28.1.1).bind fun t29 =>
 bif (decide ((((List.length (([(IntKind.wrap .u8 x0.1)] : List Int) ++ t27.1.1)) + (List.length t29.1.1)) * 1) ≤ (1099511627776:Nat))) then
 some ((((([(IntKind.wrap .u8 x0.1)] : List Int) ++ t27.1.1) ++ t29.1.1), ()), ())
 else none
 else none
 else
 bif (decide (x0.1 = (3:Int))) then
 (spec_Put16 x0.2.2.2.1.1).bind fun t30 =>
 bif (decide ((((1:Nat) + (List.length t30.1.1)) * 1) ≤ (1099511627776:Nat))) then
 (spec_PrefixBytes k x0.2.2.2.1.2.1).bind fun t31 =>
 bif (decide ((((List.length (([(IntKind.wrap .u8 x0.1)] : List Int) ++ t30.1.1)) + (List.length t31.1.1)) * 1) ≤ (1099511627776:Nat))) then
 (spec_PrefixBytes k x0.2.2.2.1.2.2.1).bind fun t32 =>
 bif (decide ((((List.length ((([(IntKind.wrap .u8 x0.1)] : List Int) ++ t30.1.1) ++ t31.1.1)) + (List.length t32.1.1)) * 1) ≤ (1099511627776:Nat))) then
 (spec_l22Twos k (((([(IntKind.wrap .u8 x0.1)] : List Int) ++ t30.1.1) ++ t31.1.1) ++ t32.1.1) ([x0.2.2.2.1.2.2.2.1, x0.2.2.2.1.2.2.2.2.1, x0.2.2.2.1.2.2.2.2.2.1, x0.2.2.2.1.2.2.2.2.2.2.1, x0.2.2.2.1.2.2.2.2.2.2.2.1] : List Int)).bind fun t33 =>
 bif (decide ((((List.length t33.1.1) + (3:Nat)) * 1) ≤ (1099511627776:Nat))) then
 (spec_Checksum k (t33.1.1 ++ ([(IntKind.wrap .u8 x0.2.2.2.1.2.2.2.2.2.2.2.2.1), (IntKind.wrap .u8 x0.2.2.2.1.2.2.2.2.2.2.2.2.2.1), (IntKind.wrap .u8 x0.2.2.2.1.2.2.2.2.2.2.2.2.2.2.1)] : List Int))).bind fun t34 =>
 (spec_Put16 t34.1.1).bind fun t35 =>
 bif (decide ((((List.length (t33.1.1 ++ ([(IntKind.wrap .u8 x0.2.2.2.1.2.2.2.2.2.2.2.2.1), (IntKind.wrap .u8 x0.2.2.2.1.2.2.2.2.2.2.2.2.2.1), (IntKind.wrap .u8 x0.2.2.2.1.2.2.2.2.2.2.2.2.2.2.1)] : List Int))) + (List.length t35.1.1)) * 1) ≤ (1099511627776:Nat))) then
 some ((((t33.1.1 ++ ([(IntKind.wrap .u8 x0.2.2.2.1.2.2.2.2.2.2.2.2.1), (IntKind.wrap .u8 x0.2.2.2.1.2.2.2.2.2.2.2.2.2.1), (IntKind.wrap .u8 x0.2.2.2.1.2.2.2.2.2.2.2.2.2.2.1)] : List Int)) ++ t35.1.1), ()), ())
 else none
 else none
 else none
 else none
 else none
 else
 bif (decide (x0.1 = (5:Int))) then
 (spec_Put32 x0.2.2.2.2.1.2.1).bind fun t36 =>
 bif (decide ((((2:Nat) + (List.length t36.1.1)) * 1) ≤ (1099511627776:Nat))) then
 (spec_Put32 x0.2.2.2.2.1.2.2.1).bind fun t37 =>
 bif (decide ((((List.length (([(IntKind.wrap .u8 x0.1), (IntKind.wrap .u8 x0.2.2.2.2.1.1)] : List Int) ++ t36.1.1)) + (List.length t37.1.1)) * 1) ≤ (1099511627776:Nat))) then
 (spec_Put32 x0.2.2.2.2.1.2.2.2.1).bind fun t38 =>
 bif (decide ((((List.length ((([(IntKind.wrap .u8 x0.1), (IntKind.wrap .u8 x0.2.2.2.2.1.1)] : List Int) ++ t36.1.1) ++ t37.1.1)) + (List.length t38.1.1)) * 1) ≤ (1099511627776:Nat))) then
 bif x0.2.2.2.2.1.2.2.2.2.1 then
 bif (decide ((((List.length (((([(IntKind.wrap .u8 x0.1), (IntKind.wrap .u8 x0.2.2.2.2.1.1)] : List Int) ++ t36.1.1) ++ t37.1.1) ++ t38.1.1)) + (1:Nat)) * 1) ≤ (1099511627776:Nat))) then
 (spec_Checksum k ((((([(IntKind.wrap .u8 x0.1), (IntKind.wrap .u8 x0.2.2.2.2.1.1)] : List Int) ++ t36.1.1) ++ t37.1.1) ++ t38.1.1) ++ ([(1:Int)] : List Int))).bind fun t39 =>
 (spec_Put16 t39.1.1).bind fun t40 =>
 bif (decide ((((List.length ((((([(IntKind.wrap .u8 x0.1), (IntKind.wrap .u8 x0.2.2.2.2.1.1)] : List Int) ++ t36.1.1) ++ t37.1.1) ++ t38.1.1) ++ ([(1:Int)] : List Int))) + (List.length t40.1.1)) * 1) ≤ (1099511627776:Nat))) then
 some (((((((([(IntKind.wrap .u8 x0.1), (IntKind.wrap .u8 x0.2.2.2.2.1.1)] : List Int) ++ t36.1.1) ++ t37.1.1) ++ t38.1.1) ++ ([(1:Int)] : List Int)) ++ t40.1.1), ()), ())
 else none
 else none
 else
 bif (decide ((((List.length (((([(IntKind.wrap .u8 x0.1), (IntKind.wrap .u8 x0.2.2.2.2.1.1)] : List Int) ++ t36.1.1) ++ t37.1.1) ++ t38.1.1)) + (1:Nat)) * 1) ≤ (1099511627776:Nat))) then
 (spec_Checksum k ((((([(IntKind.wrap .u8 x0.1), (IntKind.wrap .u8 x0.2.2.2.2.1.1)] : List Int) ++ t36.1.1) ++ t37.1.1) ++ t38.1.1) ++ ([(0:Int)] : List Int))).bind fun t41 =>
 (spec_Put16 t41.1.1).bind fun t42 =>
 bif (decide ((((List.length ((((([(IntKind.wrap .u8 x0.1), (IntKind.wrap .u8 x0.2.2.2.2.1.1)] : List Int) ++ t36.1.1) ++ t37.1.1) ++ t38.1.1) ++ ([(0:Int)] : List Int))) + (List.length t42.1.1)) * 1) ≤ (1099511627776:Nat))) then
 some (((((((([(IntKind.wrap .u8 x0.1), (IntKind.wrap .u8 x0.2.2.2.2.1.1)] : List Int) ++ t36.1.1) ++ t37.1.1) ++ t38.1.1) ++ ([(0:Int)] : List Int)) ++ t42.1.1), ()), ())
 else none
 else none
 else none
 else none
 else none
 else
 bif (decide (x0.1 = (7:Int))) then
 (iter (spec_CmdBytes_s29 k) k ((), x0, ([(IntKind.wrap .u8 x0.1), (IntKind.wrap .u8 x0.2.1), (IntKind.wrap .u8 (((List.length x0.2.2.2.2.2.1) : Nat) : Int))] : List Int), (0:Int), ())).bind fun o43 =>
 (spec_Checksum k o43.2.1).bind fun t44 =>
 (spec_Put16 t44.1.1).bind fun t45 =>
 bif (decide ((((List.length o43.2.1) + (List.length t45.1.1)) * 1) ≤ (1099511627776:Nat))) then
 some (((o43.2.1 ++ t45.1.1), ()), ())
 else none
 else
 (spec_Checksum k ([(IntKind.wrap .u8 x0.1)] : List Int)).bind fun t46 =>
 (spec_Put16 t46.1.1).bind fun t47 =>
 bif (decide ((((1:Nat) + (List.length t47.1.1)) * 1) ≤ (1099511627776:Nat))) then
 some (((([(IntKind.wrap .u8 x0.1)] : List Int) ++ t47.1.1), ()), ())
 else none
 else
 bif (decide (x0.1 = (6:Int))) then
 (spec_Checksum k ([(IntKind.wrap .u8 x0.1), (IntKind.wrap .u8 x0.2.1)] : List Int)).bind fun t48 =>
 (spec_Put16 t48.1.1).bind fun t49 =>
 bif (decide ((((2:Nat) + (List.length t49.1.1)) * 1) ≤ (1099511627776:Nat))) then
 some (((([(IntKind.wrap .u8 x0.1), (IntKind.wrap .u8 x0.2.1)] : List Int) ++ t49.1.1), ()), ())
 else none
 else
 bif (decide (x0.1 = (4:Int))) then
 bif (decide (x0.1 = (4:Int))) then
 (spec_Put16 x0.2.1).bind fun t50 =>
 bif (decide ((((1:Nat) + (List.length t50.1.1)) * 1) ≤ (1099511627776:Nat))) then
 (spec_Checksum k (([(IntKind.wrap .u8 x0.1)] : List Int) ++ t50.1.1)).bind fun t51 =>
 (spec_Put16 t51.1.1).bind fun t52 =>
 bif (decide ((((List.length (([(IntKind.wrap .u8 x0.1)] : List Int) ++ t50.1.1)) + (List.length t52.1.1)) * 1) ≤ (1099511627776:Nat))) then
 some ((((([(IntKind.wrap .u8 x0.1)] : List Int) ++ t50.1.1) ++ t52.1.1), ()), ())
 else none
 else none
 else
 bif (decide (x0.1 = (3:Int))) then
 (spec_Put16 x0.2.2.2.1.1).bind fun t53 =>
 bif (decide ((((1:Nat) + (List.length t53.1.1)) * 1) ≤ (1099511627776:Nat))) then
 (spec_PrefixBytes k x0.2.2.2.1.2.1).bind fun t54 =>
 bif (decide ((((List.length (([(IntKind.wrap .u8 x0.1)] : List Int) ++ t53.1.1)) + (List.length t54.1.1)) * 1) ≤ (1099511627776:Nat))) then
 (spec_PrefixBytes k x0.2.2.2.1.2.2.1).bind fun t55 =>
 bif (decide ((((List.length ((([(IntKind.wrap .u8 x0.1)] : List Int) ++ t53.1.1) ++ t54.1.1)) + (List.length t55.1.1)) * 1) ≤ (1099511627776:Nat))) then
 (spec_l22Twos k (((([(IntKind.wrap .u8 x0.1)] : List Int) ++ t53.1.1) ++ t54.1.1) ++ t55.1.1) ([x0.2.2.2.1.2.2.2.1, x0.2.2.2.1.2.2.2.2.1, x0.2.2.2.1.2.2.2.2.2.1, x0.2.2.2.1.2.2.2.2.2.2.1, x0.2.2.2.1.2.2.2.2.2.2.2.1] : List Int)).bind fun t56 =>
 bif (decide ((((List.length t56.1.1) + (3:Nat)) * 1) ≤ (1099511627776:Nat))) then
 (spec_Checksum k (t56.1.1 ++ ([(IntKind.wrap .u8 x0.2.2.2.1.2.2.2.2.2.2.2.2.1), (IntKind.wrap .u8 x0.2.2.2.1.2.2.2.2.2.2.2.2.2.1), (IntKind.wrap .u8 x0.2.2.2.1.2.2.2.2.2.2.2.2.2.2.1)] : List Int))).bind fun t57 =>
 (spec_Put16 t57.1.1).bind fun t58 =>
 bif (decide ((((List.length (t56.1.1 ++ ([(IntKind.wrap .u8 x0.2.2.2.1.2.2.2.2.2.2.2.2.1), (IntKind.wrap .u8 x0.2.2.2.1.2.2.2.2.2.2.2.2.2.1), (IntKind.wrap .u8 x0.2.2.2.1.2.2.2.2.2.2.2.2.2.2.1)] : List Int))) + (List.length t58.1.1)) * 1) ≤ (1099511627776:Nat))) then
 some ((((t56.1.1 ++ ([(IntKind.wrap .u8 x0.2.2.2.1.2.2.2.2.2.2.2.2.1), (IntKind.wrap .u8 x0.2.2.2.1.2.2.2.2.2.2.2.2.2.1), (IntKind.wrap .u8 x0.2.2.2.1.2.2.2.2.2.2.2.2.2.2.1)] : List Int)) ++ t58.1.1), ()), ())
 else none
 else none
 else none
 else none
 else none
 else
 bif (decide (x0.1 = (5:Int))) then
 (spec_Put32 x0.2.2.2.2.1.2.1).bind fun t59 =>
 bif (decide ((((2:Nat) + (List.length t59.1.1)) * 1) ≤ (1099511627776:Nat))) then
 (spec_Put32 x0.2.2.2.2.1.2.2.1).bind fun t60 =>
 bif (decide ((((List.length (([(IntKind.wrap .u8 x0.1), (IntKind.wrap .u8 x0.2.2.2.2.1.1)] : List Int) ++ t59.1.1)) + (List.length t60.1.1)) * 1) ≤ (1099511627776:Nat))) then
 (spec_Put32 x0.2.2.2.2.1.2.2.2.1).bind fun t61 =>
 bif (decide ((((List.length ((([(IntKind.wrap .u8 x0.1), (IntKind.wrap .u8 x0.2.2.2.2.1.1)] : List Int) ++ t59.1.1) ++ t60.1.1)) + (List.length t61.1.1)) * 1) ≤ (1099511627776:Nat))) then
 bif x0.2.2.2.2.1.2.2.2.2.1 then
 bif (decide ((((List.length (((([(IntKind.wrap .u8 x0.1), (IntKind.wrap .u8 x0.2.2.2.2.1.1)] : List Int) ++ t59.1.1) ++ t60.1.1) ++ t61.1.1)) + (1:Nat)) * 1) ≤ (1099511627776:Nat))) then
 (spec_Checksum k ((((([(IntKind.wrap .u8 x0.1), (IntKind.wrap .u8 x0.2.2.2.2.1.1)] : List Int) ++ t59.1.1) ++ t60.1.1) ++ t61.1.1) ++ ([(1:Int)] : List Int))).bind fun t62 =>
 (spec_Put16 t62.1.1).bind fun t63 =>
 bif (decide ((((List.length ((((([(IntKind.wrap .u8 x0.1), (IntKind.wrap .u8 x0.2.2.2.2.1.1)] : List Int) ++ t59.1.1) ++ t60.1.1) ++ t61.1.1) ++ ([(1:Int)] : List Int))) + (List.length t63.1.1)) * 1) ≤ (1099511627776:Nat))) then
 some (((((((([(IntKind.wrap .u8 x0.1), (IntKind.wrap .u8 x0.2.2.2.2.1.1)] : List Int) ++ t59.1.1) ++ t60.1.1) ++ t61.1.1) ++ ([(1:Int)] : List Int)) ++ t63.1.1), ()), ())
 else none
 else none
 else
 bif (decide ((((List.length (((([(IntKind.wrap .u8 x0.1), (IntKind.wrap .u8 x0.2.2.2.2.1.1)] : List Int) ++ t59.1.1) ++ t60.1.1) ++ t61.1.1)) + (1:Nat)) * 1) ≤ (1099511627776:Nat))) then
 (spec_Checksum k ((((([(IntKind.wrap .u8 x0.1), (IntKind.wrap .u8 x0.2.2.2.2.1.1)] : List Int) ++ t59.1.1) ++ t60.1.1) ++ t61.1.1) ++ ([(0:Int)] : List Int))).bind fun t64 =>
 (spec_Put16 t64.1.1).bind fun t65 =>
 bif (decide ((((List.length ((((([(IntKind.wrap .u8 x0.1), (IntKind.wrap .u8 x0.2.2.2.2.1.1)] : List Int) ++ t59.1.1) ++ t60.1.1) ++ t61.1.1) ++ ([(0:Int)] : List Int))) + (List.length t65.1.1)) * 1) ≤ (1099511627776:Nat))) then
 some (((((((([(IntKind.wrap .u8 x0.1), (IntKind.wrap .u8 x0.2.2.2.2.1.1)] : List Int) ++ t59.1.1) ++ t60.1.1) ++ t61.1.1) ++ ([(0:Int)] : List Int)) ++ t65.1.1), ()), ())
 else none
 else none
 else none
 else none
 else none
 else
 bif (decide (x0.1 = (7:Int))) then
 (iter (spec_CmdBytes_s29 k) k ((), x0, ([(IntKind.wrap .u8 x0.1), (IntKind.wrap .u8 x0.2.1), (IntKind.wrap .u8 (((List.length x0.2.2.2.2.2.1) : Nat) : Int))] : List Int), (0:Int), ())).bind fun o66 =>
 (spec_Checksum k o66.2.1).bind fun t67 =>
 (spec_Put16 t67.1.1).bind fun t68 =>
 bif (decide ((((List.length o66.2.1) + (List.length t68.1.1)) * 1) ≤ (1099511627776:Nat))) then
 some (((o66.2.1 ++ t68.1.1), ()), ())
 else none
 else
 (spec_Checksum k ([(IntKind.wrap .u8 x0.1)] : List Int)).bind fun t69 =>
 (spec_Put16 t69.1.1).bind fun t70 =>
 bif (decide ((((1:Nat) + (List.length t70.1.1)) * 1) ≤ (1099511627776:Nat))) then
 some (((([(IntKind.wrap .u8 x0.1)] : List Int) ++ t70.1.1), ()), ())
 else none
 else
 bif (decide (x0.1 = (8:Int))) then
 (spec_Put16 x0.2.1).bind fun t71 =>
 bif (decide ((((1:Nat) + (List.length t71.1.1)) * 1) ≤ (1099511627776:Nat))) then
 (spec_Checksum k (([(IntKind.wrap .u8 x0.1)] : List Int) ++ t71.1.1)).bind fun t72 =>
 (spec_Put16 t72.1.1).bind fun t73 =>
 bif (decide ((((List.length (([(IntKind.wrap .u8 x0.1)] : List Int) ++ t71.1.1)) + (List.length t73.1.1)) * 1) ≤ (1099511627776:Nat))) then
 some ((((([(IntKind.wrap .u8 x0.1)] : List Int) ++ t71.1.1) ++ t73.1.1), ()), ())
 else none
 else none
 else
 bif (decide (x0.1 = (3:Int))) then
 (spec_Put16 x0.2.2.2.1.1).bind fun t74 =>
 bif (decide ((((1:Nat) + (List.length t74.1.1)) * 1) ≤ (1099511627776:Nat))) then
 (spec_PrefixBytes k x0.2.2.2.1.2.1).bind fun t75 =>
 bif (decide ((((List.length (([(IntKind.wrap .u8 x0.1)] : List Int) ++ t74.1.1)) + (List.length t75.1.1)) * 1) ≤ (1099511627776:Nat))) then
 (spec_PrefixBytes k x0.2.2.2.1.2.2.1).bind fun t76 =>
 bif (decide ((((List.length ((([(IntKind.wrap .u8 x0.1)] : List Int) ++ t74.1.1) ++ t75.1.1)) + (List.length t76.1.1)) * 1) ≤ (1099511627776:Nat))) then
 (spec_l22Twos k (((([(IntKind.wrap .u8 x0.1)] : List Int) ++ t74.1.1) ++ t75.1.1) ++ t76.1.1) ([x0.2.2.2.1.2.2.2.1, x0.2.2.2.1.2.2.2.2.1, x0.2.2.2.1.2.2.2.2.2.1, x0.2.2.2.1.2.2.2.2.2.2.1, x0.2.2.2.1.2.2.2.2.2.2.2.1] : List Int)).bind fun t77 =>
 bif (decide ((((List.length t77.1.1) + (3:Nat)) * 1) ≤ (1099511627776:Nat))) then
 (spec_Checksum k (t77.1.1 ++ ([(IntKind.wrap .u8 x0.2.2.2.1.2.2.2.2.2.2.2.2.1), (IntKind.wrap .u8 x0.2.2.2.1.2.2.2.2.2.2.2.2.2.1), (IntKind.wrap .u8 x0.2.2.2.1.2.2.2.2.2.2.2.2.2.2.1)] : List Int))).bind fun t78 =>
 (spec_Put16 t78.1.1).bind fun t79 =>
 bif (decide ((((List.length (t77.1.1 ++ ([(IntKind.wrap .u8 x0.2.2.2.1.2.2.2.2.2.2.2.2.1), (IntKind.wrap .u8 x0.2.2.2.1.2.2.2.2.2.2.2.2.2.1), (IntKind.wrap .u8 x0.2.2.2.1.2.2.2.2.2.2.2.2.2.2.1)] : List Int))) + (List.length t79.1.1)) * 1) ≤ (1099511627776:Nat))) then
 some ((((t77.1.1 ++ ([(IntKind.wrap .u8 x0.2.2.2.1.2.2.2.2.2.2.2.2.1), (IntKind.wrap .u8 x0.2.2.2.1.2.2.2.2.2.2.2.2.2.1), (IntKind.wrap .u8 x0.2.2.2.1.2.2.2.2.2.2.2.2.2.2.1)] : List Int)) ++ t79.1.1), ()), ())
 else none
 else none
 else none
 else none
 else none
 else
 bif (decide (x0.1 = (5:Int))) then
 (spec_Put32 x0.2.2.2.2.1.2.1).bind fun t80 =>
 bif (decide ((((2:Nat) + (List.length t80.1.1)) * 1) ≤ (1099511627776:Nat))) then
 (spec_Put32 x0.2.2.2.2.1.2.2.1).bind fun t81 =>
 bif (decide ((((List.length (([(IntKind.wrap .u8 x0.1), (IntKind.wrap .u8 x0.2.2.2.2.1.1)] : List Int) ++ t80.1.1)) + (List.length t81.1.1)) * 1) ≤ (1099511627776:Nat))) then
 (spec_Put32 x0.2.2.2.2.1.2.2.2.1).bind fun t82 =>
 bif (decide ((((List.length ((([(IntKind.wrap .u8 x0.1), (IntKind.wrap .u8 x0.2.2.2.2.1.1)] : List Int) ++ t80.1.1) ++ t81.1.1)) + (List.length t82.1.1)) * 1) ≤ (1099511627776:Nat))) then
 bif x0.2.2.2.2.1.2.2.2.2.1 then
 bif (decide ((((List.length (((([(IntKind.wrap .u8 x0.1), (IntKind.wrap .u8 x0.2.2.2.2.1.1)] : List Int) ++ t80.1.1) ++ t81.1.1) ++ t82.1.1)) + (1:Nat)) * 1) ≤ (1099511627776:Nat))) then
 (spec_Checksum k ((((([(IntKind.wrap .u8 x0.1), (IntKind.wrap .u8 x0.2.2.2.2.1.1)] : List Int) ++ t80.1.1) ++ t81.1.1) ++ t82.1.1) ++ ([(1:Int)] : List Int))).bind fun t83 =>
 (spec_Put16 t83.1.1).bind fun t84 =>
 bif (decide ((((List.length ((((([(IntKind.wrap .u8 x0.1), (IntKind.wrap .u8 x0.2.2.2.2.1.1)] : List Int) ++ t80.1.1) ++ t81.1.1) ++ t82.1.1) ++ ([(1:Int)] : List Int))) + (List.length t84.1.1)) * 1) ≤ (1099511627776:Nat))) then
 some (((((((([(IntKind.wrap .u8 x0.1), (IntKind.wrap .u8 x0.2.2.2.2.1.1)] : List Int) ++ t80.1.1) ++ t81.1.1) ++ t82.1.1) ++ ([(1:Int)] : List Int)) ++ t84.1.1), ()), ())
 else none
 else none
 else
 bif (decide ((((List.length (((([(IntKind.wrap .u8 x0.1), (IntKind.wrap .u8 x0.2.2.2.2.1.1)] : List Int) ++ t80.1.1) ++ t81.1.1) ++ t82.1.1)) + (1:Nat)) * 1) ≤ (1099511627776:Nat))) then
 (spec_Checksum k ((((([(IntKind.wrap .u8 x0.1), (IntKind.wrap .u8 x0.2.2.2.2.1.1)] : List Int) ++ t80.1.1) ++ t81.1.1) ++ t82.1.1) ++ ([(0:Int)] : List Int))).bind fun t85 =>
 (spec_Put16 t85.1.1).bind fun t86 =>
 bif (decide ((((List.length ((((([(IntKind.wrap .u8 x0.1), (IntKind.wrap .u8 x0.2.2.2.2.1.1)] : List Int) ++ t80.1.1) ++ t81.1.1) ++ t82.1.1) ++ ([(0:Int)] : List Int))) + (List.length t86.1.1)) * 1) ≤ (1099511627776:Nat))) then
 some (((((((([(IntKind.wrap .u8 x0.1), (IntKind.wrap .u8 x0.2.2.2.2.1.1)] : List Int) ++ t80.1.1) ++ t81.1.1) ++ t82.1.1) ++ ([(0:Int)] : List Int)) ++ t86.1.1), ()), ())
 else none
 else none
 else none
 else none
 else none
 else
 bif (decide (x0.1 = (7:Int))) then
 (iter (spec_CmdBytes_s29 k) k ((), x0, ([(IntKind.wrap .u8 x0.1), (IntKind.wrap .u8 x0.2.1), (IntKind.wrap .u8 (((List.length x0.2.2.2.2.2.1) : Nat) : Int))] : List Int), (0:Int), ())).bind fun o87 =>
 (spec_Checksum k o87.2.1).bind fun t88 =>
 (spec_Put16 t88.1.1).bind fun t89 =>
 bif (decide ((((List.length o87.2.1) + (List.length t89.1.1)) * 1) ≤ (1099511627776:Nat))) then
 some (((o87.2.1 ++ t89.1.1), ()), ())
 else none
 else
 (spec_Checksum k ([(IntKind.wrap .u8 x0.1)] : List Int)).bind fun t90 =>
 (spec_Put16 t90.1.1).bind fun t91 =>
 bif (decide ((((1:Nat) + (List.length t91.1.1)) * 1) ≤ (1099511627776:Nat))) then
 some (((([(IntKind.wrap .u8 x0.1)] : List Int) ++ t91.1.1), ()), ())
 else none
def spec_l22Read_one (x0 : D_l22Read) : Option ((Int × Unit) × (D_l22Read × Unit)) :=
 bif (decide ((((List.length x0.1) : Nat) : Int) ≤ x0.2.1)) then
 some (((0:Int), ()), (x0.1, x0.2.1, true, ()), ())
 else
 bif ((decide ((0:Int) ≤ (IntKind.wrap .i64 ((IntKind.wrap .i64 (x0.2.1 + (1:Int))) - (1:Int))))) && (decide ((IntKind.wrap .i64 ((IntKind.wrap .i64 (x0.2.1 + (1:Int))) - (1:Int))) < (((List.length x0.1) : Nat) : Int)))) then
 bif (decide ((Int.toNat (IntKind.wrap .i64 ((IntKind.wrap .i64 (x0.2.1 + (1:Int))) - (1:Int)))) < (List.length x0.1))) then
 some (((IntKind.wrap .i64 (List.getD x0.1 (Int.toNat (IntKind.wrap .i64 ((IntKind.wrap .i64 (x0.2.1 + (1:Int))) - (1:Int)))) (0:Int))), ()), (x0.1, (IntKind.wrap .i64 (x0.2.1 + (1:Int))), x0.2.2), ())
 else none
 else none
def spec_l22Read_two (x0 : D_l22Read) : Option ((Int × Unit) × (D_l22Read × Unit)) :=
 (spec_l22Read_one x0).bind fun t1 =>
 (spec_l22Read_one t1.2.1).bind fun t2 =>
 some (((IntKind.wrap .i64 ((IntKind.wrap .i64 ((256:Int) * t1.1.1)) + t2.1.1)), ()), t2.2)
def spec_l22Read_prefix (k : Nat) (x0 : D_l22Read) : Option ((D_Prefix × Unit) × (D_l22Read × Unit)) :=
 (spec_l22Read_one x0).bind fun t1 =>
 bif (decide (t1.1.1 = (6:Int))) then
 bif (!(decide (t1.1.1 = (0:Int)))) then
 bif (!(decide (t1.1.1 = (4:Int)))) then
 bif (!(!(decide (t1.1.1 = (6:Int))))) then
 bif (decide ((((List.length t1.2.1.1) : Nat) : Int) < (IntKind.wrap .i64 (t1.2.1.2.1 + (16:Int))))) then
 bif (!t1.2.1.2.2.1) then
 some (((((0:Int), (0:Int), (0:Int), (0:Int), (0:Int), ()), (0:Int), ()), ()), (t1.2.1.1, t1.2.1.2.1, (!(decide (t1.1.1 = (0:Int)))), ()), ())
 else
 some (((((0:Int), (0:Int), (0:Int), (0:Int), (0:Int), ()), (0:Int), ()), ()), (t1.2.1.1, t1.2.1.2.1, true, ()), ())
 else
 bif (((decide ((0:Int) ≤ t1.2.1.2.1)) && (decide (t1.2.1.2.1 ≤ (IntKind.wrap .i64 (t1.2.1.2.1 + (16:Int)))))) && (decide ((IntKind.wrap .i64 (t1.2.1.2.1 + (16:Int))) ≤ (((List.length t1.2.1.1) : Nat) : Int)))) then
 (spec_AddrOf k (List.take ((Int.toNat (IntKind.wrap .i64 (t1.2.1.2.1 + (16:Int)))) - (Int.toNat t1.2.1.2.1)) (List.drop (Int.toNat t1.2.1.2.1) t1.2.1.1))).bind fun t2 =>
 (spec_l22Read_one (t1.2.1.1, (IntKind.wrap .i64 (t1.2.1.2.1 + (16:Int))), t1.2.1.2.2)).bind fun t3 =>
 some (((t2.1.1, t3.1), ()), t3.2)
 else none
 else
 bif (!t1.2.1.2.2.1) then
 some (((((0:Int), (0:Int), (0:Int), (0:Int), (0:Int), ()), (0:Int), ()), ()), (t1.2.1.1, t1.2.1.2.1, (!(decide (t1.1.1 = (0:Int)))), ()), ())
 else
 some (((((0:Int), (0:Int), (0:Int), (0:Int), (0:Int), ()), (0:Int), ()), ()), (t1.2.1.1, t1.2.1.2.1, true, ()), ())
 else
 bif (decide ((((List.length t1.2.1.1) : Nat) : Int) < (IntKind.wrap .i64 (t1.2.1.2.1 + (16:Int))))) then
 bif (!t1.2.1.2.2.1) then
 some (((((0:Int), (0:Int), (0:Int), (0:Int), (0:Int), ()), (0:Int), ()), ()), (t1.2.1.1, t1.2.1.2.1, (!(decide (t1.1.1 = (0:Int)))), ()), ())
 else
 some (((((0:Int), (0:Int), (0:Int), (0:Int), (0:Int), ()), (0:Int), ()), ()), (t1.2.1.1, t1.2.1.2.1, true, ()), ())
 else
 bif (((decide ((0:Int) ≤ t1.2.1.2.1)) && (decide (t1.2.1.2.1 ≤ (IntKind.wrap .i64 (t1.2.1.2.1 + (16:Int)))))) && (decide ((IntKind.wrap .i64 (t1.2.1.2.1 + (16:Int))) ≤ (((List.length t1.2.1.1) : Nat) : Int)))) then
 (spec_AddrOf k (List.take ((Int.toNat (IntKind.wrap .i64 (t1.2.1.2.1 + (16:Int)))) - (Int.toNat t1.2.1.2.1)) (List.drop (Int.toNat t1.2.1.2.1) t1.2.1.1))).bind fun t4 =>
 (spec_l22Read_one (t1.2.1.1, (IntKind.wrap .i64 (t1.2.1.2.1 + (16:Int))), t1.2.1.2.2)).bind fun t5 =>
 some (((t4.1.1, t5.1), ()), t5.2)
 else none
 else
 bif (!t1.2.1.2.2.1) then
 some (((((0:Int), (0:Int), (0:Int), (0:Int), (0:Int), ()), (0:Int), ()), ()), (t1.2.1.1, t1.2.1.2.1, (!(decide (t1.1.1 = (0:Int)))), ()), ())
 else
 some (((((0:Int), (0:Int), (0:Int), (0:Int), (0:Int), ()), (0:Int), ()), ()), (t1.2.1.1, t1.2.1.2.1, true, ()), ())
 else
 bif (!(decide (t1.1.1 = (0:Int)))) then
 bif (!(decide (t1.1.1 = (4:Int)))) then
 bif (!(!(decide (t1.1.1 = (6:Int))))) then
 bif (decide ((((List.length t1.2.1.1) : Nat) : Int) < (IntKind.wrap .i64 (t1.2.1.2.1 + (4:Int))))) then
 bif (!t1.2.1.2.2.1) then
 some (((((0:Int), (0:Int), (0:Int), (0:Int), (0:Int), ()), (0:Int), ()), ()), (t1.2.1.1, t1.2.1.2.1, (!(decide (t1.1.1 = (0:Int)))), ()), ())
 else
 some (((((0:Int), (0:Int), (0:Int), (0:Int), (0:Int), ()), (0:Int), ()), ()), (t1.2.1.1, t1.2.1.2.1, true, ()), ())
 else
 bif (((decide ((0:Int) ≤ t1.2.1.2.1)) && (decide (t1.2.1.2.1 ≤ (IntKind.wrap .i64 (t1.2.1.2.1 + (4:Int)))))) && (decide ((IntKind.wrap .i64 (t1.2.1.2.1 + (4:Int))) ≤ (((List.length t1.2.1.1) : Nat) : Int)))) then
 (spec_AddrOf k (List.take ((Int.toNat (IntKind.wrap .i64 (t1.2.1.2.1 + (4:Int)))) - (Int.toNat t1.2.1.2.1)) (List.drop (Int.toNat t1.2.1.2.1) t1.2.1.1))).bind fun t6 =>
 (spec_l22Read_one (t1.2.1.1, (IntKind.wrap .i64 (t1.2.1.2.1 + (4:Int))), t1.2.1.2.2)).bind fun t7 =>
 some (((t6.1.1, t7.1), ()), t7.2)
 else none
 else
 bif (!t1.2.1.2.2.1) then
 some (((((0:Int), (0:Int), (0:Int), (0:Int), (0:Int), ()), (0:Int), ()), ()), (t1.2.1.1, t1.2.1.2.1, (!(decide (t1.1.1 = (0:Int)))), ()), ())
 else
 some (((((0:Int), (0:Int), (0:Int), (0:Int), (0:Int), ()), (0:Int), ()), ()), (t1.2.1.1, t1.2.1.2.1, true, ()), ())
 else
 bif (decide ((((List.length t1.2.1.1) : Nat) : Int) < (IntKind.wrap .i64 (t1.2.1.2.1 + (4:Int))))) then
 bif (!t1.2.1.2.2.1) then
 some (((((0:Int), (0:Int), (0:Int), (0:Int), (0:Int), ()), (0:Int), ()), ()), (t1.2.1.1, t1.2.1.2.1, (!(decide (t1.1.1 = (0:Int)))), ()), ())
 else
 some (((((0:Int), (0:Int), (0:Int), (0:Int), (0:Int), ()), (0:Int), ()), ()), (t1.2.1.1, t1.2.1.2.1, true, ()), ())
 else
 bif (((decide ((0:Int) ≤ t1.2.1.2.1)) && (decide (t1.2.1.2.1 ≤ (IntKind.wrap .i64 (t1.2.1.2.1 + (4:Int)))))) && (decide ((IntKind.wrap .i64 (t1.2.1.2.1 + (4:Int))) ≤ (((List.length t1.2.1.1) : Nat) : Int)))) then
 (spec_AddrOf k (List.take ((Int.toNat (IntKind.wrap .i64 (t1.2.1.2.1 + (4:Int)))) - (Int.toNat t1.2.1.2.1)) (List.drop (Int.toNat t1.2.1.2.1) t1.2.1.1))).bind fun t8 =>
 (spec_l22Read_one (t1.2.1.1, (IntKind.wrap .i64 (t1.2.1.2.1 + (4:Int))), t1.2.1.2.2)).bind fun t9 =>
 some (((t8.1.1, t9.1), ()), t9.2)
 else none
 else
 bif (!t1.2.1.2.2.1) then
 some (((((0:Int), (0:Int), (0:Int), (0:Int), (0:Int), ()), (0:Int), ()), ()), (t1.2.1.1, t1.2.1.2.1, (!(decide (t1.1.1 = (0:Int)))), ()), ())
 else
 some (((((0:Int), (0:Int), (0:Int), (0:Int), (0:Int), ()), (0:Int), ()), ()), (t1.2.1.1, t1.2.1.2.1, true, ()), ())
def spec_l22Read_proto (x0 : D_l22Read) : Option ((Int × Unit) × (D_l22Read × Unit)) :=
 (spec_l22Read_two x0).bind fun t1 =>
 bif (decide (t1.1.1 = (65535:Int))) then
 some (((-1 : Int), ()), t1.2)
 else
 some (t1.1, t1.2)
def spec_l22Read_four (x0 : D_l22Read) : Option ((Int × Unit) × (D_l22Read × Unit)) :=
 (spec_l22Read_two x0).bind fun t1 =>
 (spec_l22Read_two t1.2.1).bind fun t2 =>
 some (((IntKind.wrap .i64 ((IntKind.wrap .i64 ((65536:Int) * t1.1.1)) + t2.1.1)), ()), t2.2)
def spec_CmdRead_s42 (k : Nat) (rec : (Unit × ((List Int) × (D_Cmd × (D_l22Read × (D_Cmd × (Int × Unit)))))) → Option ((Unit × ((List Int) × (D_Cmd × (D_l22Read × (D_Cmd × Unit))))))) (v : (Unit × ((List Int) × (D_Cmd × (D_l22Read × (D_Cmd × (Int × Unit))))))) : Option ((Unit × ((List Int) × (D_Cmd × (D_l22Read × (D_Cmd × Unit)))))) :=
 bif (decide ((0:Int) < v.2.2.2.2.2.1)) then
 (spec_l22Read_one v.2.2.2.1).bind fun t36 =>
 (spec_l22Read_prefix k t36.2.1).bind fun t37 =>
 (spec_l22Read_prefix k t37.2.1).bind fun t38 =>
 (spec_l22Read_proto t38.2.1).bind fun t39 =>
 (spec_l22Read_two t39.2.1).bind fun t40 =>
 (spec_l22Read_two t40.2.1).bind fun t41 =>
 (spec_l22Read_one t41.2.1).bind fun t42 =>
 bif (decide ((((List.length v.2.2.2.2.1.2.2.2.2.2.1) + (1:Nat)) * 136) ≤ (1099511627776:Nat))) then
 rec ((), v.2.1, v.2.2.1, t42.2.1, (v.2.2.2.2.1.1, v.2.2.2.2.1.2.1, v.2.2.2.2.1.2.2.1, v.2.2.2.2.1.2.2.2.1, v.2.2.2.2.1.2.2.2.2.1, (v.2.2.2.2.1.2.2.2.2.2.1 ++ ([(t36.1.1, t37.1.1, t38.1.1, t39.1.1, t40.1.1, t41.1.1, t42.1)] : List D_Module)), ()), (IntKind.wrap .i64 (v.2.2.2.2.2.1 - (1:Int))), ())
 else none
 else
 some ((), v.2.1, v.2.2.1, v.2.2.2.1, v.2.2.2.2.1, ())
def spec_CmdRead (k : Nat) (x0 : (List Int)) : Option ((D_Cmd × (Int × Unit)) × Unit) :=
 bif (decide ((600:Int) < (((List.length x0) : Nat) : Int))) then
 some ((zzC, (1:Int), ()), ())
 else
 bif (decide ((((List.length x0) : Nat) : Int) < (3:Int))) then
 some ((zzC, (2:Int), ()), ())
 else
 bif ((decide ((0:Int) ≤ (IntKind.wrap .i64 ((((List.length x0) : Nat) : Int) - (2:Int))))) && (decide ((IntKind.wrap .i64 ((((List.length x0) : Nat) : Int) - (2:Int))) ≤ (((List.length x0) : Nat) : Int)))) then
 (spec_Be16 x0 (IntKind.wrap .i64 ((((List.length x0) : Nat) : Int) - (2:Int)))).bind fun t1 =>
 (spec_Checksum k (List.take (Int.toNat (IntKind.wrap .i64 ((((List.length x0) : Nat) : Int) - (2:Int)))) x0)).bind fun t2 =>
 bif (!(decide (t1.1.1 = t2.1.1))) then
 some ((zzC, (3:Int), ()), ())
 else
 (spec_l22Read_one ((List.take (Int.toNat (IntKind.wrap .i64 ((((List.length x0) : Nat) : Int) - (2:Int)))) x0), (0:Int), false, ())).bind fun t3 =>
 bif (decide (t3.1.1 = (1:Int))) then
 (spec_l22Read_one t3.2.1).bind fun t4 =>
 (spec_l22Read_one t4.2.1).bind fun t5 =>
 (spec_CmdBytes k (t3.1.1, t4.1.1, t5.1.1, zzR, ((0:Int), (0:Int), (0:Int), (0:Int), false, ()), ([] : List D_Module), ())).bind fun t6 =>
 bif (!t5.2.1.2.2.1) then
 (spec_CmdOk k (t3.1.1, t4.1.1, t5.1.1, zzR, ((0:Int), (0:Int), (0:Int), (0:Int), false, ()), ([] : List D_Module), ())).bind fun t7 =>
 bif (!(!t7.1.1)) then
 bif (!(decide ((strOf t6.1.1).data.toList = (strOf x0).data.toList))) then
 some ((zzC, (4:Int), ()), ())
 else
 some (((t3.1.1, t4.1.1, t5.1.1, zzR, ((0:Int), (0:Int), (0:Int), (0:Int), false, ()), ([] : List D_Module), ()), (0:Int), ()), ())
 else
 some ((zzC, (4:Int), ()), ())
 else
 some ((zzC, (4:Int), ()), ())
 else
 bif (decide (t3.1.1 = (2:Int))) then
 bif (decide (t3.1.1 = (2:Int))) then
 (spec_l22Read_one t3.2.1).bind fun t8 =>
 (spec_CmdBytes k (t3.1.1, t8.1.1, (0:Int), zzR, ((0:Int), (0:Int), (0:Int), (0:Int), false, ()), ([] : List D_Module), ())).bind fun t9 =>
 bif (!t8.2.1.2.2.1) then
 (spec_CmdOk k (t3.1.1, t8.1.1, (0:Int), zzR, ((0:Int), (0:Int), (0:Int), (0:Int), false, ()), ([] : List D_Module), ())).bind fun t10 =>
 bif (!(!t10.1.1)) then
 bif (!(decide ((strOf t9.1.1).data.toList = (strOf x0).data.toList))) then
 some ((zzC, (4:Int), ()), ())
 else
 some (((t3.1.1, t8.1.1, (0:Int), zzR, ((0:Int), (0:Int), (0:Int), (0:Int), false, ()), ([] : List D_Module), ()), (0:Int), ()), ())
 else
 some ((zzC, (4:Int), ()), ())
 else
 some ((zzC, (4:Int), ()), ())
 else
 bif (decide (t3.1.1 = (4:Int))) then
 bif (decide (t3.1.1 = (4:Int))) then
 (spec_l22Read_two t3.2.1).bind fun t11 =>
 (spec_CmdBytes k (t3.1.1, t11.1.1, (0:Int), zzR, ((0:Int), (0:Int), (0:Int), (0:Int), false, ()), ([] : List D_Module), ())).bind fun t12 =>
 bif (!t11.2.1.2.2.1) then
 (spec_CmdOk k (t3.1.1, t11.1.1, (0:Int), zzR, ((0:Int), (0:Int), (0:Int), (0:Int), false, ()), ([] : List D_Module), ())).bind fun t13 =>
 bif (!(!t13.1.1)) then
 bif (!(decide ((strOf t12.1.1).data.toList = (strOf x0).data.toList))) then
 some ((zzC, (4:Int), ()), ())
 else
 some (((t3.1.1, t11.1.1, (0:Int), zzR, ((0:Int), (0:Int), (0:Int), (0:Int), false, ()), ([] : List D_Module), ()), (0:Int), ()), ())
 else
 some ((zzC, (4:Int), ()), ())
 else
 some ((zzC, (4:Int), ()), ())
 else
 bif (decide (t3.1.1 = (3:Int))) then
 (spec_l22Read_two t3.2.1).bind fun t14 =>
 (spec_l22Read_prefix k t14.2.1).bind fun t15 =>
 (spec_l22Read_prefix k t15.2.1).bind fun t16 =>
 (spec_l22Read_proto t16.2.1).bind fun t17 =>
 (spec_l22Read_two t17.2.1).bind fun t18 =>
 (spec_l22Read_two t18.2.1).bind fun t19 =>
 (spec_l22Read_two t19.2.1).bind fun t20 =>
 (spec_l22Read_two t20.2.1).bind fun t21 =>
 (spec_l22Read_one t21.2.1).bind fun t22 =>
 (spec_l22Read_one t22.2.1).bind fun t23 =>
 (spec_l22Read_one t23.2.1).bind fun t24 =>
 (spec_CmdBytes k (t3.1.1, (0:Int), (0:Int), (t14.1.1, t15.1.1, t16.1.1, t17.1.1, t18.1.1, t19.1.1, t20.1.1, t21.1.1, t22.1.1, t23.1.1, t24.1), ((0:Int), (0:Int), (0:Int), (0:Int), false, ()), ([] : List D_Module), ())).bind fun t25 =>
 bif (!t24.2.1.2.2.1) then
 (spec_CmdOk k (t3.1.1, (0:Int), (0:Int), (t14.1.1, t15.1.1, t16.1.1, t17.1.1, t18.1.1, t19.1.1, t20.1.1, t21.1.1, t22.1.1, t23.1.1, t24.1), ((0:Int), (0:Int), (0:Int), (0:Int), false, ()), ([] : List D_Module), ())).bind fun t26 =>
 bif (!(!t26.1.1)) then
 bif (!(decide ((strOf t25.1.1).data.toList = (strOf x0).data.toList))) then
 some ((zzC, (4:Int), ()), ())
 else
 some (((t3.1.1, (0:Int), (0:Int), (t14.1.1, t15.1.1, t16.1.1, t17.1.1, t18.1.1, t19.1.1, t20.1.1, t21.1.1, t22.1.1, t23.1.1, t24.1), ((0:Int), (0:Int), (0:Int), (0:Int), false, ()), ([] : List D_Module), ()), (0:Int), ()), ())
 else
 some ((zzC, (4:Int), ()), ())
 else
 some ((zzC, (4:Int), ()), ())
 else
 bif (decide (t3.1.1 = (5:Int))) then
 (spec_l22Read_one t3.2.1).bind fun t27 =>
 (spec_l22Read_four t27.2.1).bind fun t28 =>
 (spec_l22Read_four t28.2.1).bind fun t29 =>
 (spec_l22Read_four t29.2.1).bind fun t30 =>
 (spec_l22Read_one t30.2.1).bind fun t31 =>
 (spec_CmdBytes k (t3.1.1, (0:Int), (0:Int), zzR, (t27.1.1, t28.1.1, t29.1.1, t30.1.1, (decide (t31.1.1 = (1:Int))), ()), ([] : List D_Module), ())).bind fun t32 =>
 bif (!t31.2.1.2.2.1) then
 (spec_CmdOk k (t3.1.1, (0:Int), (0:Int), zzR, (t27.1.1, t28.1.1, t29.1.1, t30.1.1, (decide (t31.1.1 = (1:Int))), ()), ([] : List D_Module), ())).bind fun t33 =>
 bif (!(!t33.1.1)) then
 bif (!(decide ((strOf t32.1.1).data.toList = (strOf x0).data.toList))) then
 some ((zzC, (4:Int), ()), ())
 else
 some (((t3.1.1, (0:Int), (0:Int), zzR, (t27.1.1, t28.1.1, t29.1.1, t30.1.1, (decide (t31.1.1 = (1:Int))), ()), ([] : List D_Module), ()), (0:Int), ()), ())
 else
 some ((zzC, (4:Int), ()), ())
 else
 some ((zzC, (4:Int), ()), ())
 else
 bif (decide (t3.1.1 = (7:Int))) then
 (spec_l22Read_one t3.2.1).bind fun t34 =>
 (spec_l22Read_one t34.2.1).bind fun t35 =>
 (iter (spec_CmdRead_s42 k) k ((), x0, zzC, t35.2.1, (t3.1.1, t34.1.1, (0:Int), zzR, ((0:Int), (0:Int), (0:Int), (0:Int), false, ()), ([] : List D_Module), ()), (imin t35.1.1 (9:Int)), ())).bind fun o36 =>
 (spec_CmdBytes k o36.2.2.2.2.1).bind fun t37 =>
 bif (!o36.2.2.2.1.2.2.1) then
 (spec_CmdOk k o36.2.2.2.2.1).bind fun t38 =>
 bif (!(!t38.1.1)) then
 bif (!(decide ((strOf t37.1.1).data.toList = (strOf o36.2.1).data.toList))) then
 some ((zzC, (4:Int), ()), ())
 else
 some ((o36.2.2.2.2.1, (0:Int), ()), ())
 else
 some ((zzC, (4:Int), ()), ())
 else
 some ((zzC, (4:Int), ()), ())
 else
 (spec_CmdBytes k (t3.1.1, (0:Int), (0:Int), zzR, ((0:Int), (0:Int), (0:Int), (0:Int), false, ()), ([] : List D_Module), ())).bind fun t39 =>
 bif (!t3.2.1.2.2.1) then
 (spec_CmdOk k (t3.1.1, (0:Int), (0:Int), zzR, ((0:Int), (0:Int), (0:Int), (0:Int), false, ()), ([] : List D_Module), ())).bind fun t40 =>
 bif (!(!t40.1.1)) then
 bif (!(decide ((strOf t39.1.1).data.toList = (strOf x0).data.toList))) then
 some ((zzC, (4:Int), ()), ())
 else
 some (((t3.1.1, (0:Int), (0:Int), zzR, ((0:Int), (0:Int), (0:Int), (0:Int), false, ()), ([] : List D_Module), ()), (0:Int), ()), ())
 else
 some ((zzC, (4:Int), ()), ())
 else
 some ((zzC, (4:Int), ()), ())
 else
 bif (decide (t3.1.1 = (8:Int))) then
 (spec_l22Read_two t3.2.1).bind fun t41 =>
 (spec_CmdBytes k (t3.1.1, t41.1.1, (0:Int), zzR, ((0:Int), (0:Int), (0:Int), (0:Int), false, ()), ([] : List D_Module), ())).bind fun t42 =>
 bif (!t41.2.1.2.2.1) then
 (spec_CmdOk k (t3.1.1, t41.1.1, (0:Int), zzR, ((0:Int), (0:Int), (0:Int), (0:Int), false, ()), ([] : List D_Module), ())).bind fun t43 =>
 bif (!(!t43.1.1)) then
 bif (!(decide ((strOf t42.1.1).data.toList = (strOf x0).data.toList))) then
 some ((zzC, (4:Int), ()), ())
 else
 some (((t3.1.1, t41.1.1, (0:Int), zzR, ((0:Int), (0:Int), (0:Int), (0:Int), false, ()), ([] : List D_Module), ()), (0:Int), ()), ())
 else
 some ((zzC, (4:Int), ()), ())
 else
 some ((zzC, (4:Int), ()), ())
 else
 bif (decide (t3.1.1 = (3:Int))) then
 (spec_l22Read_two t3.2.1).bind fun t44 =>
 (spec_l22Read_prefix k t44.2.1).bind fun t45 =>
 (spec_l22Read_prefix k t45.2.1).bind fun t46 =>
 (spec_l22Read_proto t46.2.1).bind fun t47 =>
 (spec_l22Read_two t47.2.1).bind fun t48 =>
 (spec_l22Read_two t48.2.1).bind fun t49 =>
 (spec_l22Read_two t49.2.1).bind fun t50 =>
 (spec_l22Read_two t50.2.1).bind fun t51 =>
 (spec_l22Read_one t51.2.1).bind fun t52 =>
 (spec_l22Read_one t52.2.1).bind fun t53 =>
 (spec_l22Read_one t53.2.1).bind fun t54 =>
 (spec_CmdBytes k (t3.1.1, (0:Int), (0:Int), (t44.1.1, t45.1.1, t46.1.1, t47.1.1, t48.1.1, t49.1.1, t50.1.1, t51.1.1, t52.1.1, t53.1.1, t54.1), ((0:Int), (0:Int), (0:Int), (0:Int), false, ()), ([] : List D_Module), ())).bind fun t55 =>
 bif (!t54.2.1.2.2.1) then
 (spec_CmdOk k (t3.1.1, (0:Int), (0:Int), (t44.1.1, t45.1.1, t46.1.1, t47.1.1, t48.1.1, t49.1.1, t50.1.1, t51.1.1, t52.1.1, t53.1.1, t54.1), ((0:Int), (0:Int), (0:Int), (0:Int), false, ()), ([] : List D_Module), ())).bind fun t56 =>
 bif (!(!t56.1.1)) then
 bif (!(decide ((strOf t55.1.1).data.toList = (strOf x0).data.toList))) then
 some ((zzC, (4:Int), ()), ())
 else
 some (((t3.1.1, (0:Int), (0:Int), (t44.1.1, t45.1.1, t46.1.1, t47.1.1, t48.1.1, t49.1.1, t50.1.1, t51.1.1, t52.1.1, t53.1.1, t54.1), ((0:Int), (0:Int), (0:Int), (0:Int), false, ()), ([] : List D_Module), ()), (0:Int), ()), ())
 else
 some ((zzC, (4:Int), ()), ())
 else
 some ((zzC, (4:Int), ()), ())
 else
 bif (decide (t3.1.1 = (5:Int))) then
 (spec_l22Read_one t3.2.1).bind fun t57 =>
 (spec_l22Read_four t57.2.1).bind fun t58 =>
 (spec_l22Read_four t58.2.1).bind fun t59 =>
 (spec_l22Read_four t59.2.1).bind fun t60 =>
 (spec_l22Read_one t60.2.1).bind fun t61 =>
 (spec_CmdBytes k (t3.1.1, (0:Int), (0:Int), zzR, (t57.1.1, t58.1.1, t59.1.1, t60.1.1, (decide (t61.1.1 = (1:Int))), ()), ([] : List D_Module), ())).bind fun t62 =>
 bif (!t61.2.1.2.2.1) then
 (spec_CmdOk k (t3.1.1, (0:Int), (0:Int), zzR, (t57.1.1, t58.1.1, t59.1.1, t60.1.1, (decide (t61.1.1 = (1:Int))), ()), ([] : List D_Module), ())).bind fun t63 =>
 bif (!(!t63.1.1)) then
 bif (!(decide ((strOf t62.1.1).data.toList = (strOf x0).data.toList))) then
 some ((zzC, (4:Int), ()), ())
 else
 some (((t3.1.1, (0:Int), (0:Int), zzR, (t57.1.1, t58.1.1, t59.1.1, t60.1.1, (decide (t61.1.1 = (1:Int))), ()), ([] : List D_Module), ()), (0:Int), ()), ())
 else
 some ((zzC, (4:Int), ()), ())
 else
 some ((zzC, (4:Int), ()), ())
 else
 bif (decide (t3.1.1 = (7:Int))) then
 (spec_l22Read_one t3.2.1).bind fun t64 =>
 (spec_l22Read_one t64.2.1).bind fun t65 =>
 (iter (spec_CmdRead_s42 k) k ((), x0, zzC, t65.2.1, (t3.1.1, t64.1.1, (0:Int), zzR, ((0:Int), (0:Int), (0:Int), (0:Int), false, ()), ([] : List D_Module), ()), (imin t65.1.1 (9:Int)), ())).bind fun o66 =>
 (spec_CmdBytes k o66.2.2.2.2.1).bind fun t67 =>
 bif (!o66.2.2.2.1.2.2.1) then
 (spec_CmdOk k o66.2.2.2.2.1).bind fun t68 =>
 bif (!(!t68.1.1)) then
 bif (!(decide ((strOf t67.1.1).data.toList = (strOf o66.2.1).data.toList))) then
 some ((zzC, (4:Int), ()), ())
 else
 some ((o66.2.2.2.2.1, (0:Int), ()), ())
 else
 some ((zzC, (4:Int), ()), ())
 else
 some ((zzC, (4:Int), ()), ())
 else
 (spec_CmdBytes k (t3.1.1, (0:Int), (0:Int), zzR, ((0:Int), (0:Int), (0:Int), (0:Int), false, ()), ([] : List D_Module), ())).bind fun t69 =>
 bif (!t3.2.1.2.2.1) then
 (spec_CmdOk k (t3.1.1, (0:Int), (0:Int), zzR, ((0:Int), (0:Int), (0:Int), (0:Int), false, ()), ([] : List D_Module), ())).bind fun t70 =>
 bif (!(!t70.1.1)) then
 bif (!(decide ((strOf t69.1.1).data.toList = (strOf x0).data.toList))) then
 some ((zzC, (4:Int), ()), ())
 else
 some (((t3.1.1, (0:Int), (0:Int), zzR, ((0:Int), (0:Int), (0:Int), (0:Int), false, ()), ([] : List D_Module), ()), (0:Int), ()), ())
 else
 some ((zzC, (4:Int), ()), ())
 else
 some ((zzC, (4:Int), ()), ())
 else
 bif (decide (t3.1.1 = (6:Int))) then
 (spec_l22Read_one t3.2.1).bind fun t71 =>
 (spec_CmdBytes k (t3.1.1, t71.1.1, (0:Int), zzR, ((0:Int), (0:Int), (0:Int), (0:Int), false, ()), ([] : List D_Module), ())).bind fun t72 =>
 bif (!t71.2.1.2.2.1) then
 (spec_CmdOk k (t3.1.1, t71.1.1, (0:Int), zzR, ((0:Int), (0:Int), (0:Int), (0:Int), false, ()), ([] : List D_Module), ())).bind fun t73 =>
 bif (!(!t73.1.1)) then
 bif (!(decide ((strOf t72.1.1).data.toList = (strOf x0).data.toList))) then
 some ((zzC, (4:Int), ()), ())
 else
 some (((t3.1.1, t71.1.1, (0:Int), zzR, ((0:Int), (0:Int), (0:Int), (0:Int), false, ()), ([] : List D_Module), ()), (0:Int), ()), ())
 else
 some ((zzC, (4:Int), ()), ())
 else
 some ((zzC, (4:Int), ()), ())
 else
 bif (decide (t3.1.1 = (4:Int))) then
 bif (decide (t3.1.1 = (4:Int))) then
 (spec_l22Read_two t3.2.1).bind fun t74 =>
 (spec_CmdBytes k (t3.1.1, t74.1.1, (0:Int), zzR, ((0:Int), (0:Int), (0:Int), (0:Int), false, ()), ([] : List D_Module), ())).bind fun t75 =>
 bif (!t74.2.1.2.2.1) then
 (spec_CmdOk k (t3.1.1, t74.1.1, (0:Int), zzR, ((0:Int), (0:Int), (0:Int), (0:Int), false, ()), ([] : List D_Module), ())).bind fun t76 =>
 bif (!(!t76.1.1)) then
 bif (!(decide ((strOf t75.1.1).data.toList = (strOf x0).data.toList))) then
 some ((zzC, (4:Int), ()), ())
 else
 some (((t3.1.1, t74.1.1, (0:Int), zzR, ((0:Int), (0:Int), (0:Int), (0:Int), false, ()), ([] : List D_Module), ()), (0:Int), ()), ())
 else
 some ((zzC, (4:Int), ()), ())
 else
 some ((zzC, (4:Int), ()), ())
 else
 bif (decide (t3.1.1 = (3:Int))) then
 (spec_l22Read_two t3.2.1).bind fun t77 =>
 (spec_l22Read_prefix k t77.2.1).bind fun t78 =>
 (spec_l22Read_prefix k t78.2.1).bind fun t79 =>
 (spec_l22Read_proto t79.2.1).bind fun t80 =>
 (spec_l22Read_two t80.2.1).bind fun t81 =>
 (spec_l22Read_two t81.2.1).bind fun t82 =>
 (spec_l22Read_two t82.2.1).bind fun t83 =>
 (spec_l22Read_two t83.2.1).bind fun t84 =>
 (spec_l22Read_one t84.2.1).bind fun t85 =>
 (spec_l22Read_one t85.2.1).bind fun t86 =>
 (spec_l22Read_one t86.2.1).bind fun t87 =>
 (spec_CmdBytes k (t3.1.1, (0:Int), (0:Int), (t77.1.1, t78.1.1, t79.1.1, t80.1.1, t81.1.1, t82.1.1, t83.1.1, t84.1.1, t85.1.1, t86.1.1, t87.1), ((0:Int), (0:Int), (0:Int), (0:Int), false, ()), ([] : List D_Module), ())).bind fun t88 =>
 bif (!t87.2.1.2.2.1) then
 (spec_CmdOk k (t3.1.1, (0:Int), (0:Int), (t77.1.1, t78.1.1, t79.1.1, t80.1.1, t81.1.1, t82.1.1, t83.1.1, t84.1.1, t85.1.1, t86.1.1, t87.1), ((0:Int), (0:Int), (0:Int), (0:Int), false, ()), ([] : List D_Module), ())).bind fun t89 =>
 bif (!(!t89.1.1)) then
 bif (!(decide ((strOf t88.1.1).data.toList = (strOf x0).data.toList))) then
 some ((zzC, (4:Int), ()), ())
 else
 some (((t3.1.1, (0:Int), (0:Int), (t77.1.1, t78.1.1, t79.1.1, t80.1.1, t81.1.1, t82.1.1, t83.1.1, t84.1.1, t85.1.1, t86.1.1, t87.1), ((0:Int), (0:Int), (0:Int), (0:Int), false, ()), ([] : List D_Module), ()), (0:Int), ()), ())
 else
 some ((zzC, (4:Int), ()), ())
 else
 some ((zzC, (4:Int), ()), ())
 else
 bif (decide (t3.1.1 = (5:Int))) then
 (spec_l22Read_one t3.2.1).bind fun t90 =>
 (spec_l22Read_four t90.2.1).bind fun t91 =>
 (spec_l22Read_four t91.2.1).bind fun t92 =>
 (spec_l22Read_four t92.2.1).bind fun t93 =>
 (spec_l22Read_one t93.2.1).bind fun t94 =>
 (spec_CmdBytes k (t3.1.1, (0:Int), (0:Int), zzR, (t90.1.1, t91.1.1, t92.1.1, t93.1.1, (decide (t94.1.1 = (1:Int))), ()), ([] : List D_Module), ())).bind fun t95 =>
 bif (!t94.2.1.2.2.1) then
 (spec_CmdOk k (t3.1.1, (0:Int), (0:Int), zzR, (t90.1.1, t91.1.1, t92.1.1, t93.1.1, (decide (t94.1.1 = (1:Int))), ()), ([] : List D_Module), ())).bind fun t96 =>
 bif (!(!t96.1.1)) then
 bif (!(decide ((strOf t95.1.1).data.toList = (strOf x0).data.toList))) then
 some ((zzC, (4:Int), ()), ())
 else
 some (((t3.1.1, (0:Int), (0:Int), zzR, (t90.1.1, t91.1.1, t92.1.1, t93.1.1, (decide (t94.1.1 = (1:Int))), ()), ([] : List D_Module), ()), (0:Int), ()), ())
 else
 some ((zzC, (4:Int), ()), ())
 else
 some ((zzC, (4:Int), ()), ())
 else
 bif (decide (t3.1.1 = (7:Int))) then
 (spec_l22Read_one t3.2.1).bind fun t97 =>
 (spec_l22Read_one t97.2.1).bind fun t98 =>
 (iter (spec_CmdRead_s42 k) k ((), x0, zzC, t98.2.1, (t3.1.1, t97.1.1, (0:Int), zzR, ((0:Int), (0:Int), (0:Int), (0:Int), false, ()), ([] : List D_Module), ()), (imin t98.1.1 (9:Int)), ())).bind fun o99 =>
 (spec_CmdBytes k o99.2.2.2.2.1).bind fun t100 =>
 bif (!o99.2.2.2.1.2.2.1) then
 (spec_CmdOk k o99.2.2.2.2.1).bind fun t101 =>
 bif (!(!t101.1.1)) then
 bif (!(decide ((strOf t100.1.1).data.toList = (strOf o99.2.1).data.toList))) then
 some ((zzC, (4:Int), ()), ())
 else
 some ((o99.2.2.2.2.1, (0:Int), ()), ())
 else
 some ((zzC, (4:Int), ()), ())
 else
 some ((zzC, (4:Int), ()), ())
 else
 (spec_CmdBytes k (t3.1.1, (0:Int), (0:Int), zzR, ((0:Int), (0:Int), (0:Int), (0:Int), false, ()), ([] : List D_Module), ())).bind fun t102 =>
 bif (!t3.2.1.2.2.1) then
 (spec_CmdOk k (t3.1.1, (0:Int), (0:Int), zzR, ((0:Int), (0:Int), (0:Int), (0:Int), false, ()), ([] : List D_Module), ())).bind fun t103 =>
 bif (!(!t103.1.1)) then
 bif (!(decide ((strOf t102.1.1).data.toList = (strOf x0).data.toList))) then
 some ((zzC, (4:Int), ()), ())
 else
 some (((t3.1.1, (0:Int), (0:Int), zzR, ((0:Int), (0:Int), (0:Int), (0:Int), false, ()), ([] : List D_Module), ()), (0:Int), ()), ())
 else
 some ((zzC, (4:Int), ()), ())
 else
 some ((zzC, (4:Int), ()), ())
 else
 bif (decide (t3.1.1 = (8:Int))) then
 (spec_l22Read_two t3.2.1).bind fun t104 =>
 (spec_CmdBytes k (t3.1.1, t104.1.1, (0:Int), zzR, ((0:Int), (0:Int), (0:Int), (0:Int), false, ()), ([] : List D_Module), ())).bind fun t105 =>
 bif (!t104.2.1.2.2.1) then
 (spec_CmdOk k (t3.1.1, t104.1.1, (0:Int), zzR, ((0:Int), (0:Int), (0:Int), (0:Int), false, ()), ([] : List D_Module), ())).bind fun t106 =>
 bif (!(!t106.1.1)) then
 bif (!(decide ((strOf t105.1.1).data.toList = (strOf x0).data.toList))) then
 some ((zzC, (4:Int), ()), ())
 else
 some (((t3.1.1, t104.1.1, (0:Int), zzR, ((0:Int), (0:Int), (0:Int), (0:Int), false, ()), ([] : List D_Module), ()), (0:Int), ()), ())
 else
 some ((zzC, (4:Int), ()), ())
 else
 some ((zzC, (4:Int), ()), ())
 else
 bif (decide (t3.1.1 = (3:Int))) then
 (spec_l22Read_two t3.2.1).bind fun t107 =>
 (spec_l22Read_prefix k t107.2.1).bind fun t108 =>
 (spec_l22Read_prefix k t108.2.1).bind fun t109 =>
 (spec_l22Read_proto t109.2.1).bind fun t110 =>
 (spec_l22Read_two t110.2.1).bind fun t111 =>
 (spec_l22Read_two t111.2.1).bind fun t112 =>
 (spec_l22Read_two t112.2.1).bind fun t113 =>
 (spec_l22Read_two t113.2.1).bind fun t114 =>
 (spec_l22Read_one t114.2.1).bind fun t115 =>
 (spec_l22Read_one t115.2.1).bind fun t116 =>
 (spec_l22Read_one t116.2.1).bind fun t117 =>
 (spec_CmdBytes k (t3.1.1, (0:Int), (0:Int), (t107.1.1, t108.1.1, t109.1.1, t110.1.1, t111.1.1, t112.1.1, t113.1.1, t114.1.1, t115.1.1, t116.1.1, t117.1), ((0:Int), (0:Int), (0:Int), (0:Int), false, ()), ([] : List D_Module), ())).bind fun t118 =>
 bif (!t117.2.1.2.2.1) then
 (spec_CmdOk k (t3.1.1, (0:Int), (0:Int), (t107.1.1, t108.1.1, t109.1.1, t110.1.1, t111.1.1, t112.1.1, t113.1.1, t114.1.1, t115.1.1, t116.1.1, t117.1), ((0:Int), (0:Int), (0:Int), (0:Int), false, ()), ([] : List D_Module), ())).bind fun t119 =>
 bif (!(!t119.1.1)) then
 bif (!(decide ((strOf t118.1.1).data.toList = (strOf x0).data.toList))) then
 some ((zzC, (4:Int), ()), ())
 else
 some (((t3.1.1, (0:Int), (0:Int), (t107.1.1, t108.1.1, t109.1.1, t110.1.1, t111.1.1, t112.1.1, t113.1.1, t114.1.1, t115.1.1, t116.1.1, t117.1), ((0:Int), (0:Int), (0:Int), (0:Int), false, ()), ([] : List D_Module), ()), (0:Int), ()), ())
 else
 some ((zzC, (4:Int), ()), ())
 else
 some ((zzC, (4:Int), ()), ())
 else
 bif (decide (t3.1.1 = (5:Int))) then
 (spec_l22Read_one t3.2.1).bind fun t120 =>
 (spec_l22Read_four t120.2.1).bind fun t121 =>
 (spec_l22Read_four t121.2.1).bind fun t122 =>
 (spec_l22Read_four t122.2.1).bind fun t123 =>
 (spec_l22Read_one t123.2.1).bind fun t124 =>
 (spec_CmdBytes k (t3.1.1, (0:Int), (0:Int), zzR, (t120.1.1, t121.1.1, t122.1.1, t123.1.1, (decide (t124.1.1 = (1:Int))), ()), ([] : List D_Module), ())).bind fun t125 =>
 bif (!t124.2.1.2.2.1) then
 (spec_CmdOk k (t3.1.1, (0:Int), (0:Int), zzR, (t120.1.1, t121.1.1, t122.1.1, t123.1.1, (decide (t124.1.1 = (1:Int))), ()), ([] : List D_Module), ())).bind fun t126 =>
 bif (!(!t126.1.1)) then
 bif (!(decide ((strOf t125.1.1).data.toList = (strOf x0).data.toList))) then
 some ((zzC, (4:Int), ()), ())
 else
 some (((t3.1.1, (0:Int), (0:Int), zzR, (t120.1.1, t121.1.1, t122.1.1, t123.1.1, (decide (t124.1.1 = (1:Int))), ()), ([] : List D_Module), ()), (0:Int), ()), ())
 else
 some ((zzC, (4:Int), ()), ())
 else
 some ((zzC, (4:Int), ()), ())
 else
 bif (decide (t3.1.1 = (7:Int))) then
 (spec_l22Read_one t3.2.1).bind fun t127 =>
 (spec_l22Read_one t127.2.1).bind fun t128 =>
 (iter (spec_CmdRead_s42 k) k ((), x0, zzC, t128.2.1, (t3.1.1, t127.1.1, (0:Int), zzR, ((0:Int), (0:Int), (0:Int), (0:Int), false, ()), ([] : List D_Module), ()), (imin t128.1.1 (9:Int)), ())).bind fun o129 =>
 (spec_CmdBytes k o129.2.2.2.2.1).bind fun t130 =>
 bif (!o129.2.2.2.1.2.2.1) then
 (spec_CmdOk k o129.2.2.2.2.1).bind fun t131 =>
 bif (!(!t131.1.1)) then
 bif (!(decide ((strOf t130.1.1).data.toList = (strOf o129.2.1).data.toList))) then
 some ((zzC, (4:Int), ()), ())
 else
 some ((o129.2.2.2.2.1, (0:Int), ()), ())
 else
 some ((zzC, (4:Int), ()), ())
 else
 some ((zzC, (4:Int), ()), ())
 else
 (spec_CmdBytes k (t3.1.1, (0:Int), (0:Int), zzR, ((0:Int), (0:Int), (0:Int), (0:Int), false, ()), ([] : List D_Module), ())).bind fun t132 =>
 bif (!t3.2.1.2.2.1) then
 (spec_CmdOk k (t3.1.1, (0:Int), (0:Int), zzR, ((0:Int), (0:Int), (0:Int), (0:Int), false, ()), ([] : List D_Module), ())).bind fun t133 =>
 bif (!(!t133.1.1)) then
 bif (!(decide ((strOf t132.1.1).data.toList = (strOf x0).data.toList))) then
 some ((zzC, (4:Int), ()), ())
 else
 some (((t3.1.1, (0:Int), (0:Int), zzR, ((0:Int), (0:Int), (0:Int), (0:Int), false, ()), ([] : List D_Module), ()), (0:Int), ()), ())
 else
 some ((zzC, (4:Int), ()), ())
 else
 some ((zzC, (4:Int), ()), ())
 else none
def spec_ChainAt_s5 (k : Nat) (rec : (Unit × ((List D_Event) × (Int × (Int × ((List D_Module) × (Int × Unit)))))) → Option ((Unit × ((List D_Module) × Unit)))) (v : (Unit × ((List D_Event) × (Int × (Int × ((List D_Module) × (Int × Unit))))))) : Option ((Unit × ((List D_Module) × Unit))) :=
 bif (decide (v.2.2.2.2.2.1 < v.2.2.1)) then
 bif ((decide ((0:Int) ≤ v.2.2.2.2.2.1)) && (decide (v.2.2.2.2.2.1 < (((List.length v.2.1) : Nat) : Int)))) then
 bif (decide ((Int.toNat v.2.2.2.2.2.1) < (List.length v.2.1))) then
 bif (decide ((List.getD v.2.1 (Int.toNat v.2.2.2.2.2.1) z_Event).1 = (3:Int))) then
 bif ((decide ((0:Int) ≤ v.2.2.2.2.2.1)) && (decide (v.2.2.2.2.2.1 < (((List.length v.2.1) : Nat) : Int)))) then
 bif (decide ((Int.toNat v.2.2.2.2.2.1) < (List.length v.2.1))) then
 (spec_CmdRead k (List.getD v.2.1 (Int.toNat v.2.2.2.2.2.1) z_Event).2.2.1).bind fun t2 =>
 bif (decide (t2.1.1.1 = (7:Int))) then
 bif (decide (t2.1.1.2.1 = v.2.2.2.1)) then
 rec ((), v.2.1, v.2.2.1, v.2.2.2.1, t2.1.1.2.2.2.2.2.1, (IntKind.wrap .i64 (v.2.2.2.2.2.1 + (1:Int))), ())
 else
 rec ((), v.2.1, v.2.2.1, v.2.2.2.1, v.2.2.2.2.1, (IntKind.wrap .i64 (v.2.2.2.2.2.1 + (1:Int))), ())
 else
 rec ((), v.2.1, v.2.2.1, v.2.2.2.1, v.2.2.2.2.1, (IntKind.wrap .i64 (v.2.2.2.2.2.1 + (1:Int))), ())
 else none
 else none
 else
 rec ((), v.2.1, v.2.2.1, v.2.2.2.1, v.2.2.2.2.1, (IntKind.wrap .i64 (v.2.2.2.2.2.1 + (1:Int))), ())
 else none
 else none
 else
 some ((), v.2.2.2.2.1, ())
def spec_ChainAt (k : Nat) (x0 : (List D_Event)) (x1 : Int) (x2 : Int) : Option (((List D_Module) × Unit) × Unit) :=
 (spec_EventsOk k x0).bind fun t1 =>
 bif (!(!t1.1.1)) then
 bif (!(decide (x1 < (0:Int)))) then
 bif (!(decide ((((List.length x0) : Nat) : Int) < x1))) then
 bif (!(decide (x2 < (1:Int)))) then
 bif (decide ((8:Int) < x2)) then
 some ((([] : List D_Module), ()), ())
 else
 (iter (spec_ChainAt_s5 k) k ((), x0, x1, x2, ([] : List D_Module), (0:Int), ())).bind fun o2 =>
 some (o2.2, ())
 else
 some ((([] : List D_Module), ()), ())
 else
 some ((([] : List D_Module), ()), ())
 else
 some ((([] : List D_Module), ()), ())
 else
 some ((([] : List D_Module), ()), ())
def impl_within (x0 : Int) (x1 : Int) (x2 : Int) : Option ((Bool × Unit) × Unit) :=
 bif (decide (x1 ≤ x0)) then
 some (((decide (x0 ≤ x2)), ()), ())
 else
 some ((false, ()), ())
def impl_eventOk (x0 : D_Event) : Option ((Bool × Unit) × Unit) :=
 bif (decide (x0.1 = (1:Int))) then
 bif (decide (x0.2.1 = (0:Int))) then
 some (((decide ((((List.length x0.2.2.1) : Nat) : Int) ≤ (2000:Int))), ()), ())
 else
 some ((false, ()), ())
 else
 bif (decide (x0.1 = (3:Int))) then
 bif (decide (x0.2.1 = (0:Int))) then
 bif (decide ((((List.length x0.2.2.1) : Nat) : Int) ≤ (2000:Int))) then
 some ((((decide (x0.2.2.2.1.1 = (0:Int))) && ((decide (x0.2.2.2.1.2.1 = (0:Int))) && ((decide (x0.2.2.2.1.2.2.1 = (0:Int))) && true))), ()), ())
 else
 some ((false, ()), ())
 else
 some ((false, ()), ())
 else
 bif (decide (x0.1 = (2:Int))) then
 (impl_within x0.2.1 (1:Int) (4000:Int)).bind fun t1 =>
 bif t1.1.1 then
 bif (decide ((((List.length x0.2.2.1) : Nat) : Int) = (0:Int))) then
 some ((((decide (x0.2.2.2.1.1 = (0:Int))) && ((decide (x0.2.2.2.1.2.1 = (0:Int))) && ((decide (x0.2.2.2.1.2.2.1 = (0:Int))) && true))), ()), ())
 else
 some ((false, ()), ())
 else
 some ((false, ()), ())
 else
 bif (decide (x0.1 = (4:Int))) then
 bif (decide (x0.2.1 = (0:Int))) then
 bif (decide ((((List.length x0.2.2.1) : Nat) : Int) = (0:Int))) then
 some ((((decide (x0.2.2.2.1.1 = (0:Int))) && ((decide (x0.2.2.2.1.2.1 = (0:Int))) && ((decide (x0.2.2.2.1.2.2.1 = (0:Int))) && true))), ()), ())
 else
 some ((false, ()), ())
 else
 some ((false, ()), ())
 else
 some ((false, ()), ())
def impl_EventsOk_s3 (rec : (Unit × ((List D_Event) × (Int × ((List D_Event) × (Int × (Int × Unit)))))) → Option ((Unit × (Bool × Unit)) ⊕ (Unit × ((List D_Event) × (Int × Unit))))) (v : (Unit × ((List D_Event) × (Int × ((List D_Event) × (Int × (Int × Unit))))))) : Option ((Unit × (Bool × Unit)) ⊕ (Unit × ((List D_Event) × (Int × Unit)))) :=
 bif (decide (v.2.2.2.2.2.1 < v.2.2.2.2.1)) then
 bif ((decide ((0:Int) ≤ v.2.2.2.2.2.1)) && (decide (v.2.2.2.2.2.1 < (((List.length v.2.2.2.1) : Nat) : Int)))) then
 bif (decide ((Int.toNat v.2.2.2.2.2.1) < (List.length v.2.2.2.1))) then
 (impl_eventOk (List.getD v.2.2.2.1 (Int.toNat v.2.2.2.2.2.1) z_Event)).bind fun t1 =>
 bif (!t1.1.1) then
 some (Sum.inl ((), false, ()))
 else
 rec ((), v.2.1, (IntKind.wrap .i64 (v.2.2.1 + (List.getD v.2.2.2.1 (Int.toNat v.2.2.2.2.2.1) z_Event).2.1)), v.2.2.2.1, v.2.2.2.2.1, (IntKind.wrap .i64 (v.2.2.2.2.2.1 + (1:Int))), ())
 else none
 else none
 else
 some (Sum.inr ((), v.2.1, v.2.2.1, ()))
def impl_EventsOk (k : Nat) (x0 : (List D_Event)) : Option ((Bool × Unit) × Unit) :=
 (iter (impl_EventsOk_s3) k ((), x0, (0:Int), x0, (((List.length x0) : Nat) : Int), (0:Int), ())).bind fun o1 =>
 Sum.elim (fun a2 =>
 some (a2.2, ()))
 (fun b3 =>
 bif (decide ((((List.length b3.2.1) : Nat) : Int) ≤ (200:Int))) then
 some (((decide (b3.2.2.1 ≤ (4000:Int))), ()), ())
 else
 some ((false, ()), ())) o1
def impl_beOf_s3 (rec : (Unit × (Int × ((List Int) × (Int × (Int × Unit))))) → Option ((Unit × (Int × Unit)))) (v : (Unit × (Int × ((List Int) × (Int × (Int × Unit)))))) : Option ((Unit × (Int × Unit))) :=
 bif (decide (v.2.2.2.2.1 < v.2.2.2.1)) then
 bif ((decide ((0:Int) ≤ v.2.2.2.2.1)) && (decide (v.2.2.2.2.1 < (((List.length v.2.2.1) : Nat) : Int)))) then
 bif (decide ((Int.toNat v.2.2.2.2.1) < (List.length v.2.2.1))) then
 rec ((), (IntKind.wrap .i64 (BitVec.ofInt (IntKind.bits .i64) (IntKind.wrap .i64 (v.2.1 * 2 ^ min (Int.toNat (8:Int)) (IntKind.bits .i64))) ||| BitVec.ofInt (IntKind.bits .i64) (IntKind.wrap .i64 (List.getD v.2.2.1 (Int.toNat v.2.2.2.2.1) (0:Int)))).toNat), v.2.2.1, v.2.2.2.1, (IntKind.wrap .i64 (v.2.2.2.2.1 + (1:Int))), ())
 else none
 else none
 else
 some ((), v.2.1, ())
def impl_beOf (k : Nat) (x0 : (List Int)) : Option ((Int × Unit) × Unit) :=
 (iter (impl_beOf_s3) k ((), (0:Int), x0, (((List.length x0) : Nat) : Int), (0:Int), ())).bind fun o1 =>
 some (o1.2, ())
def impl_sum (x0 : Int) (x1 : Int) : Option ((Int × Unit) × Unit) :=
 bif (decide ((65535:Int) < (IntKind.wrap .i64 (x0 + x1)))) then
 some (((IntKind.wrap .i64 ((IntKind.wrap .i64 (x0 + x1)) - (65535:Int))), ()), ())
 else
 some (((IntKind.wrap .i64 (x0 + x1)), ()), ())
def impl_onesSum_s3 (rec : (Unit × ((List Int) × (Int × (Int × Unit)))) → Option ((Unit × (Int × Unit)))) (v : (Unit × ((List Int) × (Int × (Int × Unit))))) : Option ((Unit × (Int × Unit))) :=
 bif (decide (v.2.2.2.1 < (((List.length v.2.1) : Nat) : Int))) then
 bif ((decide ((0:Int) ≤ v.2.2.2.1)) && (decide (v.2.2.2.1 < (((List.length v.2.1) : Nat) : Int)))) then
 bif (decide ((Int.toNat v.2.2.2.1) < (List.length v.2.1))) then
 bif (decide ((IntKind.wrap .i64 (v.2.2.2.1 + (1:Int))) < (((List.length v.2.1) : Nat) : Int))) then
 bif ((decide ((0:Int) ≤ (IntKind.wrap .i64 (v.2.2.2.1 + (1:Int))))) && (decide ((IntKind.wrap .i64 (v.2.2.2.1 + (1:Int))) < (((List.length v.2.1) : Nat) : Int)))) then
 bif (decide ((Int.toNat (IntKind.wrap .i64 (v.2.2.2.1 + (1:Int)))) < (List.length v.2.1))) then
 (impl_sum v.2.2.1 (IntKind.wrap .i64 (BitVec.ofInt (IntKind.bits .i64) (IntKind.wrap .i64 ((IntKind.wrap .i64 (List.getD v.2.1 (Int.toNat v.2.2.2.1) (0:Int))) * 2 ^ min (Int.toNat (8:Int)) (IntKind.bits .i64))) ||| BitVec.ofInt (IntKind.bits .i64) (IntKind.wrap .i64 (List.getD v.2.1 (Int.toNat (IntKind.wrap .i64 (v.2.2.2.1 + (1:Int)))) (0:Int)))).toNat)).bind fun t1 =>
 rec ((), v.2.1, t1.1.1, (IntKind.wrap .i64 (v.2.2.2.1 + (2:Int))), ())
 else none
 else none
 else
 (impl_sum v.2.2.1 (IntKind.wrap .i64 ((IntKind.wrap .i64 (List.getD v.2.1 (Int.toNat v.2.2.2.1) (0:Int))) * 2 ^ min (Int.toNat (8:Int)) (IntKind.bits .i64)))).bind fun t2 =>
 rec ((), v.2.1, t2.1.1, (IntKind.wrap .i64 (v.2.2.2.1 + (2:Int))), ())
 else none
 else none
 else
 some ((), v.2.2.1, ())
def impl_onesSum (k : Nat) (x0 : (List Int)) : Option ((Int × Unit) × Unit) :=
 (iter (impl_onesSum_s3) k ((), x0, (0:Int), (0:Int), ())).bind fun o1 =>
 some (o1.2, ())
def impl_Checksum (k : Nat) (x0 : (List Int)) : Option ((Int × Unit) × Unit) :=
 bif (decide ((2000:Int) < (((List.length x0) : Nat) : Int))) then
 some (((-1 : Int), ()), ())
 else
 (impl_onesSum k x0).bind fun t1 =>
 some (((IntKind.wrap .i64 ((65535:Int) - t1.1.1)), ()), ())
def impl_isWeight (x0 : Int) : Option ((Bool × Unit) × Unit) :=
 (impl_within x0 (1:Int) (10:Int)).bind fun t1 =>
 some (t1.1, ())
def impl_areZero_1 (x0 : Int) : Option ((Bool × Unit) × Unit) :=
 some (((!(decide (x0 = (0:Int)))), ()), ())
def slices_IndexFunc_int_s2 (rec : (Unit × ((List Int) × (Unit × (Int × (Int × Unit))))) → Option ((Unit × (Int × Unit)) ⊕ (Unit × Unit))) (v : (Unit × ((List Int) × (Unit × (Int × (Int × Unit)))))) : Option ((Unit × (Int × Unit)) ⊕ (Unit × Unit)) :=
 bif (decide (v.2.2.2.2.1 < v.2.2.2.1)) then
 bif ((decide ((0:Int) ≤ v.2.2.2.2.1)) && (decide (v.2.2.2.2.1 < (((List.length v.2.1) : Nat) : Int)))) then
 bif (decide ((Int.toNat v.2.2.2.2.1) < (List.length v.2.1))) then
 (impl_areZero_1 (List.getD v.2.1 (Int.toNat v.2.2.2.2.1) (0:Int))).bind fun t1 =>
 bif t1.1.1 then
 some (Sum.inl ((), v.2.2.2.2))
 else
 rec ((), v.2.1, (), v.2.2.2.1, (IntKind.wrap .i64 (v.2.2.2.2.1 + (1:Int))), ())
 else none
 else none
 else
 some (Sum.inr ((), ()))
def slices_IndexFunc_int (k : Nat) (x0 : (List Int)) (x1 : Unit) : Option ((Int × Unit) × Unit) :=
 (iter (slices_IndexFunc_int_s2) k ((), x0, (), (((List.length x0) : Nat) : Int), (0:Int), ())).bind fun o1 =>
 Sum.elim (fun a2 =>
 some (a2.2, ()))
 (fun b3 =>
 some (((-1 : Int), ()), ())) o1
def slices_ContainsFunc_int (k : Nat) (x0 : (List Int)) (x1 : Unit) : Option ((Bool × Unit) × Unit) :=
 (slices_IndexFunc_int k x0 ()).bind fun t1 =>
 some (((decide ((0:Int) ≤ t1.1.1)), ()), ())
def impl_areZero (k : Nat) (x0 : (List Int)) : Option ((Bool × Unit) × Unit) :=
 (slices_ContainsFunc_int k x0 ()).bind fun t1 =>
 some (((!t1.1.1), ()), ())
def impl_isAny (x0 : D_Prefix) : Option ((Bool × Unit) × Unit) :=
 some (((((decide (x0.1.1 = (0:Int))) && ((decide (x0.1.2.1 = (0:Int))) && ((decide (x0.1.2.2.1 = (0:Int))) && ((decide (x0.1.2.2.2.1 = (0:Int))) && ((decide (x0.1.2.2.2.2.1 = (0:Int))) && true))))) && ((decide (x0.2.1 = (0:Int))) && true)), ()), ())
def impl_isLong (x0 : Int) : Option ((Bool × Unit) × Unit) :=
 (impl_within x0 (0:Int) (4294967295:Int)).bind fun t1 =>
 some (t1.1, ())
def impl_AddrOk (x0 : D_Addr) : Option ((Bool × Unit) × Unit) :=
 bif (decide (x0.1 = (4:Int))) then
 bif (decide (x0.2.1 = (0:Int))) then
 bif (decide (x0.2.2.1 = (0:Int))) then
 bif (decide (x0.2.2.2.1 = (0:Int))) then
 (impl_isLong x0.2.2.2.2.1).bind fun t1 =>
 some (t1.1, ())
 else
 some ((false, ()), ())
 else
 some ((false, ()), ())
 else
 some ((false, ()), ())
 else
 bif (decide (x0.1 = (6:Int))) then
 (impl_isLong x0.2.1).bind fun t2 =>
 bif t2.1.1 then
 (impl_isLong x0.2.2.1).bind fun t3 =>
 bif t3.1.1 then
 (impl_isLong x0.2.2.2.1).bind fun t4 =>
 bif t4.1.1 then
 (impl_isLong x0.2.2.2.2.1).bind fun t5 =>
 some (t5.1, ())
 else
 some ((false, ()), ())
 else
 some ((false, ()), ())
 else
 some ((false, ()), ())
 else
 some ((false, ()), ())
def impl_bitsOf (x0 : D_Addr) : Option ((Int × Unit) × Unit) :=
 bif (decide (x0.1 = (4:Int))) then
 some (((32:Int), ()), ())
 else
 some (((128:Int), ()), ())
def impl_put_s3 (rec : (Unit × (Int × (Int × ((List Int) × (Int × (Int × Unit)))))) → Option ((Unit × D_cursor))) (v : (Unit × (Int × (Int × ((List Int) × (Int × (Int × Unit))))))) : Option ((Unit × D_cursor)) :=
 bif (decide (v.2.2.2.2.2.1 < v.2.2.2.2.1)) then
 bif (decide ((0:Int) ≤ (IntKind.wrap .i64 ((8:Int) * (IntKind.wrap .i64 ((IntKind.wrap .i64 (v.2.2.1 - (1:Int))) - v.2.2.2.2.2.1)))))) then
 bif ((decide ((0:Int) ≤ v.2.2.2.2.2.1)) && (decide (v.2.2.2.2.2.1 < (((List.length v.2.2.2.1) : Nat) : Int)))) then
 bif (decide ((Int.toNat v.2.2.2.2.2.1) < (List.length v.2.2.2.1))) then
 let y1 : (List Int) := (List.set v.2.2.2.1 (Int.toNat v.2.2.2.2.2.1) (IntKind.wrap .u8 (Int.fdiv v.2.1 (2 ^ min (Int.toNat (IntKind.wrap .i64 ((8:Int) * (IntKind.wrap .i64 ((IntKind.wrap .i64 (v.2.2.1 - (1:Int))) - v.2.2.2.2.2.1))))) (IntKind.bits .i64)))))
 rec ((), v.2.1, v.2.2.1, y1, v.2.2.2.2.1, (IntKind.wrap .i64 (v.2.2.2.2.2.1 + (1:Int))), ())
 else none
 else none
 else none
 else
 some ((), v.2.2.2.1, ())
def impl_put (k : Nat) (x0 : Int) (x1 : Int) : Option (D_cursor × Unit) :=
 bif (((decide ((0:Int) ≤ x1)) && (decide (x1 ≤ x1))) && (decide (((1:Int) * x1) ≤ (1099511627776:Int)))) then
 (iter (impl_put_s3) k ((), x0, x1, (List.replicate (Int.toNat x1) (0:Int)), (((List.length (List.replicate (Int.toNat x1) (0:Int))) : Nat) : Int), (0:Int), ())).bind fun o1 =>
 some (o1.2, ())
 else none
def impl_Put32 (k : Nat) (x0 : Int) : Option (D_cursor × Unit) :=
 (impl_put k x0 (4:Int)).bind fun t1 =>
 some (t1.1, ())
def slices_Concat_byte_byte_s3 (rec : (Unit × ((List (List Int)) × (Int × ((List (List Int)) × (Int × (Int × Unit)))))) → Option ((Unit × ((List (List Int)) × (Int × Unit))))) (v : (Unit × ((List (List Int)) × (Int × ((List (List Int)) × (Int × (Int × Unit))))))) : Option ((Unit × ((List (List Int)) × (Int × Unit)))) :=
 bif (decide (v.2.2.2.2.2.1 < v.2.2.2.2.1)) then
 bif ((decide ((0:Int) ≤ v.2.2.2.2.2.1)) && (decide (v.2.2.2.2.2.1 < (((List.length v.2.2.2.1) : Nat) : Int)))) then
 bif (decide ((Int.toNat v.2.2.2.2.2.1) < (List.length v.2.2.2.1))) then
 bif (decide ((IntKind.wrap .i64 (v.2.2.1 + (((List.length (List.getD v.2.2.2.1 (Int.toNat v.2.2.2.2.2.1) [])) : Nat) : Int))) < (0:Int))) then
 none
 else
 rec ((), v.2.1, (IntKind.wrap .i64 (v.2.2.1 + (((List.length (List.getD v.2.2.2.1 (Int.toNat v.2.2.2.2.2.1) [])) : Nat) : Int))), v.2.2.2.1, v.2.2.2.2.1, (IntKind.wrap .i64 (v.2.2.2.2.2.1 + (1:Int))), ())
 else none
 else none
 else
 some ((), v.2.1, v.2.2.1, ())
def slices_Concat_byte_byte_s11 (rec : (Unit × ((List Int) × ((List (List Int)) × (Int × (Int × Unit))))) → Option ((Unit × D_cursor))) (v : (Unit × ((List Int) × ((List (List Int)) × (Int × (Int × Unit)))))) : Option ((Unit × D_cursor)) :=
 bif (decide (v.2.2.2.2.1 < v.2.2.2.1)) then
 bif ((decide ((0:Int) ≤ v.2.2.2.2.1)) && (decide (v.2.2.2.2.1 < (((List.length v.2.2.1) : Nat) : Int)))) then
 bif (decide ((Int.toNat v.2.2.2.2.1) < (List.length v.2.2.1))) then
 bif (decide ((((List.length v.2.1) + (List.length (List.getD v.2.2.1 (Int.toNat v.2.2.2.2.1) []))) * 1) ≤ (1099511627776:Nat))) then
 rec ((), (v.2.1 ++ (List.getD v.2.2.1 (Int.toNat v.2.2.2.2.1) [])), v.2.2.1, v.2.2.2.1, (IntKind.wrap .i64 (v.2.2.2.2.1 + (1:Int))), ())
 else none
 else none
 else none
 else
 some ((), v.2.1, ())
def slices_Concat_byte_byte (k : Nat) (x0 : (List (List Int))) : Option (D_cursor × Unit) :=
 (iter (slices_Concat_byte_byte_s3) k ((), x0, (0:Int), x0, (((List.length x0) : Nat) : Int), (0:Int), ())).bind fun o1 =>
 bif (decide (o1.2.2.1 < (0:Int))) then
 none
 else
 bif (decide ((0:Int) < (IntKind.wrap .i64 (o1.2.2.1 - (0:Int))))) then
 bif ((decide ((0:Int) ≤ (IntKind.wrap .i64 (o1.2.2.1 - (0:Int))))) && (decide (((1:Int) * (IntKind.wrap .i64 (o1.2.2.1 - (0:Int)))) ≤ (1099511627776:Int)))) then
 bif (decide ((0:Int) ≤ (((List.length (List.replicate (Int.toNat (IntKind.wrap .i64 (o1.2.2.1 - (0:Int)))) (0:Int))) : Nat) : Int))) then
 (iter (slices_Concat_byte_byte_s11) k ((), (List.take (0:Nat) (List.replicate (Int.toNat (IntKind.wrap .i64 (o1.2.2.1 - (0:Int)))) (0:Int))), o1.2.1, (((List.length o1.2.1) : Nat) : Int), (0:Int), ())).bind fun o2 =>
 some (o2.2, ())
 else none
 else none
 else
 (iter (slices_Concat_byte_byte_s11) k ((), ([] : List Int), o1.2.1, (((List.length o1.2.1) : Nat) : Int), (0:Int), ())).bind fun o3 =>
 some (o3.2, ())
def impl_AddrBytes (k : Nat) (x0 : D_Addr) : Option (D_cursor × Unit) :=
 (impl_AddrOk x0).bind fun t1 =>
 bif (!t1.1.1) then
 some ((([] : List Int), ()), ())
 else
 bif (decide (x0.1 = (4:Int))) then
 (impl_Put32 k x0.2.2.2.2.1).bind fun t2 =>
 some (t2.1, ())
 else
 (impl_Put32 k x0.2.1).bind fun t3 =>
 (impl_Put32 k x0.2.2.1).bind fun t4 =>
 (impl_Put32 k x0.2.2.2.1).bind fun t5 =>
 (impl_Put32 k x0.2.2.2.2.1).bind fun t6 =>
 (slices_Concat_byte_byte k ([t3.1.1, t4.1.1, t5.1.1, t6.1.1] : List (List Int))).bind fun t7 =>
 some (t7.1, ())
def impl_Clip (x0 : Int) (x1 : Int) (x2 : Int) : Option ((Int × Unit) × Unit) :=
 bif (decide (x0 < x1)) then
 some ((x1, ()), ())
 else
 bif (decide (x2 < x0)) then
 some ((x2, ()), ())
 else
 some ((x0, ()), ())
def impl_AddrOf (k : Nat) (x0 : (List Int)) : Option ((D_Addr × (Bool × Unit)) × Unit) :=
 bif (decide ((((List.length x0) : Nat) : Int) = (4:Int))) then
 (impl_beOf k x0).bind fun t1 =>
 some ((((4:Int), (0:Int), (0:Int), (0:Int), t1.1), true, ()), ())
 else
 bif (decide ((((List.length x0) : Nat) : Int) = (16:Int))) then
 bif (decide ((4:Int) ≤ (((List.length x0) : Nat) : Int))) then
 (impl_beOf k (List.take (4:Nat) x0)).bind fun t2 =>
 bif (decide ((8:Int) ≤ (((List.length x0) : Nat) : Int))) then
 (impl_beOf k (List.take (4:Nat) (List.drop (4:Nat) x0))).bind fun t3 =>
 bif (decide ((12:Int) ≤ (((List.length x0) : Nat) : Int))) then
 (impl_beOf k (List.take (4:Nat) (List.drop (8:Nat) x0))).bind fun t4 =>
 bif ((decide ((12:Int) ≤ (((List.length x0) : Nat) : Int))) && (decide ((((List.length x0) : Nat) : Int) ≤ (((List.length x0) : Nat) : Int)))) then
 (impl_beOf k (List.take ((List.length x0) - (12:Nat)) (List.drop (12:Nat) x0))).bind fun t5 =>
 some ((((6:Int), t2.1.1, t3.1.1, t4.1.1, t5.1), true, ()), ())
 else none
 else none
 else none
 else none
 else
 some ((((0:Int), (0:Int), (0:Int), (0:Int), (0:Int), ()), false, ()), ())
def impl_Cut_s5 (rec : (Unit × (Int × (D_Addr × ((List Int) × (Int × (Int × Unit)))))) → Option ((Unit × (D_Addr × D_cursor)))) (v : (Unit × (Int × (D_Addr × ((List Int) × (Int × (Int × Unit))))))) : Option ((Unit × (D_Addr × D_cursor))) :=
 bif (decide (v.2.2.2.2.2.1 < v.2.2.2.2.1)) then
 (impl_Clip (IntKind.wrap .i64 (v.2.1 - (IntKind.wrap .i64 ((8:Int) * v.2.2.2.2.2.1)))) (0:Int) (8:Int)).bind fun t5 =>
 bif ((decide ((0:Int) ≤ v.2.2.2.2.2.1)) && (decide (v.2.2.2.2.2.1 < (((List.length v.2.2.2.1) : Nat) : Int)))) then
 bif (decide ((Int.toNat v.2.2.2.2.2.1) < (List.length v.2.2.2.1))) then
 bif (decide ((0:Int) ≤ t5.1.1)) then
 bif ((decide ((0:Int) ≤ v.2.2.2.2.2.1)) && (decide (v.2.2.2.2.2.1 < (((List.length v.2.2.2.1) : Nat) : Int)))) then
 bif (decide ((Int.toNat v.2.2.2.2.2.1) < (List.length v.2.2.2.1))) then
 let y6 : (List Int) := (List.set v.2.2.2.1 (Int.toNat v.2.2.2.2.2.1) (IntKind.wrap .u8 (BitVec.ofInt (IntKind.bits .u8) (List.getD v.2.2.2.1 (Int.toNat v.2.2.2.2.2.1) (0:Int)) &&& BitVec.ofInt (IntKind.bits .u8) (IntKind.wrap .u8 (Int.fdiv (65280:Int) (2 ^ min (Int.toNat t5.1.1) (IntKind.bits .u16))))).toNat))
 rec ((), v.2.1, v.2.2.1, y6, v.2.2.2.2.1, (IntKind.wrap .i64 (v.2.2.2.2.2.1 + (1:Int))), ())
 else none
 else none
 else none
 else none
 else none
 else
 some ((), v.2.2.1, v.2.2.2.1, ())
def impl_Cut (k : Nat) (x0 : D_Addr) (x1 : Int) : Option ((D_Addr × Unit) × Unit) :=
 (impl_AddrOk x0).bind fun t1 =>
 bif (!(!t1.1.1)) then
 (impl_bitsOf x0).bind fun t2 =>
 (impl_within x1 (0:Int) t2.1.1).bind fun t3 =>
 bif (!t3.1.1) then
 some ((((0:Int), (0:Int), (0:Int), (0:Int), (0:Int), ()), ()), ())
 else
 (impl_AddrBytes k x0).bind fun t4 =>
 (iter (impl_Cut_s5) k ((), x1, ((0:Int), (0:Int), (0:Int), (0:Int), (0:Int), ()), t4.1.1, (((List.length t4.1.1) : Nat) : Int), (0:Int), ())).bind fun o5 =>
 (impl_AddrOf k o5.2.2.1).bind fun t6 =>
 some ((t6.1.1, ()), ())
 else
 some ((((0:Int), (0:Int), (0:Int), (0:Int), (0:Int), ()), ()), ())
def impl_PrefixOk (k : Nat) (x0 : D_Prefix) : Option ((Bool × Unit) × Unit) :=
 (impl_isAny x0).bind fun t1 =>
 bif (!t1.1.1) then
 (impl_AddrOk x0.1).bind fun t2 =>
 bif t2.1.1 then
 (impl_bitsOf x0.1).bind fun t3 =>
 (impl_within x0.2.1 (0:Int) t3.1.1).bind fun t4 =>
 bif t4.1.1 then
 (impl_Cut k x0.1 x0.2.1).bind fun t5 =>
 some ((((decide (t5.1.1.1 = x0.1.1)) && ((decide (t5.1.1.2.1 = x0.1.2.1)) && ((decide (t5.1.1.2.2.1 = x0.1.2.2.1)) && ((decide (t5.1.1.2.2.2.1 = x0.1.2.2.2.1)) && ((decide (t5.1.1.2.2.2.2.1 = x0.1.2.2.2.2.1)) && true))))), ()), ())
 else
 some ((false, ()), ())
 else
 some ((false, ()), ())
 else
 some ((true, ()), ())
def impl_isRange (x0 : Int) (x1 : Int) : Option ((Bool × Unit) × Unit) :=
 bif (decide ((0:Int) ≤ x0)) then
 bif (decide (x0 ≤ x1)) then
 some (((decide (x1 ≤ (65535:Int))), ()), ())
 else
 some ((false, ()), ())
 else
 some ((false, ()), ())
def impl_RuleOk (k : Nat) (x0 : D_Rule) : Option ((Bool × Unit) × Unit) :=
 (impl_within x0.1 (1:Int) (9999:Int)).bind fun t1 =>
 bif (!(!t1.1.1)) then
 (impl_PrefixOk k x0.2.1).bind fun t2 =>
 bif (!(!t2.1.1)) then
 (impl_PrefixOk k x0.2.2.1).bind fun t3 =>
 bif (!(!t3.1.1)) then
 (impl_within x0.2.2.2.1 (-1 : Int) (255:Int)).bind fun t4 =>
 bif (!(!t4.1.1)) then
 (impl_isRange x0.2.2.2.2.1 x0.2.2.2.2.2.1).bind fun t5 =>
 bif (!(!t5.1.1)) then
 (impl_isRange x0.2.2.2.2.2.2.1 x0.2.2.2.2.2.2.2.1).bind fun t6 =>
 bif (!t6.1.1) then
 some ((false, ()), ())
 else
 (impl_within x0.2.2.2.2.2.2.2.2.1 (1:Int) (8:Int)).bind fun t7 =>
 bif t7.1.1 then
 (impl_within x0.2.2.2.2.2.2.2.2.2.1 (1:Int) (10:Int)).bind fun t8 =>
 bif t8.1.1 then
 (impl_within x0.2.2.2.2.2.2.2.2.2.2.1 (1:Int) (8:Int)).bind fun t9 =>
 some (t9.1, ())
 else
 some ((false, ()), ())
 else
 some ((false, ()), ())
 else
 some ((false, ()), ())
 else
 some ((false, ()), ())
 else
 some ((false, ()), ())
 else
 some ((false, ()), ())
 else
 some ((false, ()), ())
def impl_LimitsOk (x0 : D_Limits) : Option ((Bool × Unit) × Unit) :=
 (impl_within x0.1 (1:Int) (64:Int)).bind fun t1 =>
 bif t1.1.1 then
 (impl_within x0.2.1 (1:Int) (100000:Int)).bind fun t2 =>
 bif t2.1.1 then
 (impl_within x0.2.2.1 (1:Int) (1000000:Int)).bind fun t3 =>
 bif t3.1.1 then
 (impl_within x0.2.2.2.1 (0:Int) (100000:Int)).bind fun t4 =>
 some (t4.1, ())
 else
 some ((false, ()), ())
 else
 some ((false, ()), ())
 else
 some ((false, ()), ())
def impl_arePairOf (k : Nat) (x0 : D_Prefix) (x1 : D_Prefix) : Option ((Bool × Unit) × Unit) :=
 (impl_PrefixOk k x0).bind fun t1 =>
 bif t1.1.1 then
 (impl_PrefixOk k x1).bind fun t2 =>
 bif t2.1.1 then
 (impl_isAny x0).bind fun t3 =>
 bif (!t3.1.1) then
 (impl_isAny x1).bind fun t4 =>
 bif (!t4.1.1) then
 bif (decide (x0.1.1 = x1.1.1)) then
 some (((decide (x0.2.1 = x1.2.1)), ()), ())
 else
 some ((false, ()), ())
 else
 some ((false, ()), ())
 else
 some ((false, ()), ())
 else
 some ((false, ()), ())
 else
 some ((false, ()), ())
def impl_ModuleOk (k : Nat) (x0 : D_Module) : Option ((Bool × Unit) × Unit) :=
 bif (decide (x0.1 = (1:Int))) then
 (impl_PrefixOk k x0.2.1).bind fun t1 =>
 bif t1.1.1 then
 (impl_PrefixOk k x0.2.2.1).bind fun t2 =>
 bif t2.1.1 then
 (impl_within x0.2.2.2.1 (-1 : Int) (255:Int)).bind fun t3 =>
 bif t3.1.1 then
 (impl_isRange x0.2.2.2.2.1 x0.2.2.2.2.2.1).bind fun t4 =>
 bif t4.1.1 then
 some (((decide (x0.2.2.2.2.2.2.1 = (0:Int))), ()), ())
 else
 some ((false, ()), ())
 else
 some ((false, ()), ())
 else
 some ((false, ()), ())
 else
 some ((false, ()), ())
 else
 bif (decide (x0.1 = (2:Int))) then
 bif (decide (x0.1 = (2:Int))) then
 (impl_arePairOf k x0.2.1 x0.2.2.1).bind fun t5 =>
 bif t5.1.1 then
 some ((((decide (x0.1 = x0.1)) && ((decide (x0.2.2.2.1 = (0:Int))) && ((decide (x0.2.2.2.2.1 = (0:Int))) && ((decide (x0.2.2.2.2.2.1 = (0:Int))) && ((decide (x0.2.2.2.2.2.2.1 = (0:Int))) && true))))), ()), ())
 else
 some ((false, ()), ())
 else
 bif (decide (x0.1 = (5:Int))) then
 (impl_within x0.2.2.2.2.2.2.1 (0:Int) (63:Int)).bind fun t6 =>
 bif t6.1.1 then
 some ((((decide (x0.1 = x0.1)) && ((((decide (x0.2.1.1.1 = (0:Int))) && ((decide (x0.2.1.1.2.1 = (0:Int))) && ((decide (x0.2.1.1.2.2.1 = (0:Int))) && ((decide (x0.2.1.1.2.2.2.1 = (0:Int))) && ((decide (x0.2.1.1.2.2.2.2.1 = (0:Int))) && true))))) && ((decide (x0.2.1.2.1 = (0:Int))) && true)) && ((((decide (x0.2.2.1.1.1 = (0:Int))) && ((decide (x0.2.2.1.1.2.1 = (0:Int))) && ((decide (x0.2.2.1.1.2.2.1 = (0:Int))) && ((decide (x0.2.2.1.1.2.2.2.1 = (0:Int))) && ((decide (x0.2.2.1.1.2.2.2.2.1 = (0:Int))) && true))))) && ((decide (x0.2.2.1.2.1 = (0:Int))) && true)) && ((decide (x0.2.2.2.1 = (0:Int))) && ((decide (x0.2.2.2.2.1 = (0:Int))) && ((decide (x0.2.2.2.2.2.1 = (0:Int))) && true)))))), ()), ())
 else
 some ((false, ()), ())
 else
 bif (decide (x0.1 = (7:Int))) then
 (impl_within x0.2.2.2.2.2.2.1 (1:Int) (4:Int)).bind fun t7 =>
 bif t7.1.1 then
 some ((((decide (x0.1 = x0.1)) && ((((decide (x0.2.1.1.1 = (0:Int))) && ((decide (x0.2.1.1.2.1 = (0:Int))) && ((decide (x0.2.1.1.2.2.1 = (0:Int))) && ((decide (x0.2.1.1.2.2.2.1 = (0:Int))) && ((decide (x0.2.1.1.2.2.2.2.1 = (0:Int))) && true))))) && ((decide (x0.2.1.2.1 = (0:Int))) && true)) && ((((decide (x0.2.2.1.1.1 = (0:Int))) && ((decide (x0.2.2.1.1.2.1 = (0:Int))) && ((decide (x0.2.2.1.1.2.2.1 = (0:Int))) && ((decide (x0.2.2.1.1.2.2.2.1 = (0:Int))) && ((decide (x0.2.2.1.1.2.2.2.2.1 = (0:Int))) && true))))) && ((decide (x0.2.2.1.2.1 = (0:Int))) && true)) && ((decide (x0.2.2.2.1 = (0:Int))) && ((decide (x0.2.2.2.2.1 = (0:Int))) && ((decide (x0.2.2.2.2.2.1 = (0:Int))) && true)))))), ()), ())
 else
 some ((false, ()), ())
 else
 bif (decide (x0.1 = (4:Int))) then
 bif (decide (x0.1 = (4:Int))) then
 some ((((decide (x0.1 = x0.1)) && ((((decide (x0.2.1.1.1 = (0:Int))) && ((decide (x0.2.1.1.2.1 = (0:Int))) && ((decide (x0.2.1.1.2.2.1 = (0:Int))) && ((decide (x0.2.1.1.2.2.2.1 = (0:Int))) && ((decide (x0.2.1.1.2.2.2.2.1 = (0:Int))) && true))))) && ((decide (x0.2.1.2.1 = (0:Int))) && true)) && ((((decide (x0.2.2.1.1.1 = (0:Int))) && ((decide (x0.2.2.1.1.2.1 = (0:Int))) && ((decide (x0.2.2.1.1.2.2.1 = (0:Int))) && ((decide (x0.2.2.1.1.2.2.2.1 = (0:Int))) && ((decide (x0.2.2.1.1.2.2.2.2.1 = (0:Int))) && true))))) && ((decide (x0.2.2.1.2.1 = (0:Int))) && true)) && ((decide (x0.2.2.2.1 = (0:Int))) && ((decide (x0.2.2.2.2.1 = (0:Int))) && ((decide (x0.2.2.2.2.2.1 = (0:Int))) && ((decide (x0.2.2.2.2.2.2.1 = (0:Int))) && true))))))), ()), ())
 else
 some ((false, ()), ())
 else
 bif (decide (x0.1 = (6:Int))) then
 some ((((decide (x0.1 = x0.1)) && ((((decide (x0.2.1.1.1 = (0:Int))) && ((decide (x0.2.1.1.2.1 = (0:Int))) && ((decide (x0.2.1.1.2.2.1 = (0:Int))) && ((decide (x0.2.1.1.2.2.2.1 = (0:Int))) && ((decide (x0.2.1.1.2.2.2.2.1 = (0:Int))) && true))))) && ((decide (x0.2.1.2.1 = (0:Int))) && true)) && ((((decide (x0.2.2.1.1.1 = (0:Int))) && ((decide (x0.2.2.1.1.2.1 = (0:Int))) && ((decide (x0.2.2.1.1.2.2.1 = (0:Int))) && ((decide (x0.2.2.1.1.2.2.2.1 = (0:Int))) && ((decide (x0.2.2.1.1.2.2.2.2.1 = (0:Int))) && true))))) && ((decide (x0.2.2.1.2.1 = (0:Int))) && true)) && ((decide (x0.2.2.2.1 = (0:Int))) && ((decide (x0.2.2.2.2.1 = (0:Int))) && ((decide (x0.2.2.2.2.2.1 = (0:Int))) && ((decide (x0.2.2.2.2.2.2.1 = (0:Int))) && true))))))), ()), ())
 else
 some ((false, ()), ())
 else
 bif (decide (x0.1 = (3:Int))) then
 (impl_arePairOf k x0.2.1 x0.2.2.1).bind fun t8 =>
 bif t8.1.1 then
 some ((((decide (x0.1 = x0.1)) && ((decide (x0.2.2.2.1 = (0:Int))) && ((decide (x0.2.2.2.2.1 = (0:Int))) && ((decide (x0.2.2.2.2.2.1 = (0:Int))) && ((decide (x0.2.2.2.2.2.2.1 = (0:Int))) && true))))), ()), ())
 else
 some ((false, ()), ())
 else
 bif (decide (x0.1 = (5:Int))) then
 (impl_within x0.2.2.2.2.2.2.1 (0:Int) (63:Int)).bind fun t9 =>
 bif t9.1.1 then
 some ((((decide (x0.1 = x0.1)) && ((((decide (x0.2.1.1.1 = (0:Int))) && ((decide (x0.2.1.1.2.1 = (0:Int))) && ((decide (x0.2.1.1.2.2.1 = (0:Int))) && ((decide (x0.2.1.1.2.2.2.1 = (0:Int))) && ((decide (x0.2.1.1.2.2.2.2.1 = (0:Int))) && true))))) && ((decide (x0.2.1.2.1 = (0:Int))) && true)) && ((((decide (x0.2.2.1.1.1 = (0:Int))) && ((decide (x0.2.2.1.1.2.1 = (0:Int))) && ((decide (x0.2.2.1.1.2.2.1 = (0:Int))) && ((decide (x0.2.2.1.1.2.2.2.1 = (0:Int))) && ((decide (x0.2.2.1.1.2.2.2.2.1 = (0:Int))) && true))))) && ((decide (x0.2.2.1.2.1 = (0:Int))) && true)) && ((decide (x0.2.2.2.1 = (0:Int))) && ((decide (x0.2.2.2.2.1 = (0:Int))) && ((decide (x0.2.2.2.2.2.1 = (0:Int))) && true)))))), ()), ())
 else
 some ((false, ()), ())
 else
 bif (decide (x0.1 = (7:Int))) then
 (impl_within x0.2.2.2.2.2.2.1 (1:Int) (4:Int)).bind fun t10 =>
 bif t10.1.1 then
 some ((((decide (x0.1 = x0.1)) && ((((decide (x0.2.1.1.1 = (0:Int))) && ((decide (x0.2.1.1.2.1 = (0:Int))) && ((decide (x0.2.1.1.2.2.1 = (0:Int))) && ((decide (x0.2.1.1.2.2.2.1 = (0:Int))) && ((decide (x0.2.1.1.2.2.2.2.1 = (0:Int))) && true))))) && ((decide (x0.2.1.2.1 = (0:Int))) && true)) && ((((decide (x0.2.2.1.1.1 = (0:Int))) && ((decide (x0.2.2.1.1.2.1 = (0:Int))) && ((decide (x0.2.2.1.1.2.2.1 = (0:Int))) && ((decide (x0.2.2.1.1.2.2.2.1 = (0:Int))) && ((decide (x0.2.2.1.1.2.2.2.2.1 = (0:Int))) && true))))) && ((decide (x0.2.2.1.2.1 = (0:Int))) && true)) && ((decide (x0.2.2.2.1 = (0:Int))) && ((decide (x0.2.2.2.2.1 = (0:Int))) && ((decide (x0.2.2.2.2.2.1 = (0:Int))) && true)))))), ()), ())
 else
 some ((false, ()), ())
 else
 bif (decide (x0.1 = (4:Int))) then
 bif (decide (x0.1 = (4:Int))) then
 some ((((decide (x0.1 = x0.1)) && ((((decide (x0.2.1.1.1 = (0:Int))) && ((decide (x0.2.1.1.2.1 = (0:Int))) && ((decide (x0.2.1.1.2.2.1 = (0:Int))) && ((decide (x0.2.1.1.2.2.2.1 = (0:Int))) && ((decide (x0.2.1.1.2.2.2.2.1 = (0:Int))) && true))))) && ((decide (x0.2.1.2.1 = (0:Int))) && true)) && ((((decide (x0.2.2.1.1.1 = (0:Int))) && ((decide (x0.2.2.1.1.2.1 = (0:Int))) && ((decide (x0.2.2.1.1.2.2.1 = (0:Int))) && ((decide (x0.2.2.1.1.2.2.2.1 = (0:Int))) && ((decide (x0.2.2.1.1.2.2.2.2.1 = (0:Int))) && true))))) && ((decide (x0.2.2.1.2.1 = (0:Int))) && true)) && ((decide (x0.2.2.2.1 = (0:Int))) && ((decide (x0.2.2.2.2.1 = (0:Int))) && ((decide (x0.2.2.2.2.2.1 = (0:Int))) && ((decide (x0.2.2.2.2.2.2.1 = (0:Int))) && true))))))), ()), ())
 else
 some ((false, ()), ())
 else
 bif (decide (x0.1 = (6:Int))) then
 some ((((decide (x0.1 = x0.1)) && ((((decide (x0.2.1.1.1 = (0:Int))) && ((decide (x0.2.1.1.2.1 = (0:Int))) && ((decide (x0.2.1.1.2.2.1 = (0:Int))) && ((decide (x0.2.1.1.2.2.2.1 = (0:Int))) && ((decide (x0.2.1.1.2.2.2.2.1 = (0:Int))) && true))))) && ((decide (x0.2.1.2.1 = (0:Int))) && true)) && ((((decide (x0.2.2.1.1.1 = (0:Int))) && ((decide (x0.2.2.1.1.2.1 = (0:Int))) && ((decide (x0.2.2.1.1.2.2.1 = (0:Int))) && ((decide (x0.2.2.1.1.2.2.2.1 = (0:Int))) && ((decide (x0.2.2.1.1.2.2.2.2.1 = (0:Int))) && true))))) && ((decide (x0.2.2.1.2.1 = (0:Int))) && true)) && ((decide (x0.2.2.2.1 = (0:Int))) && ((decide (x0.2.2.2.2.1 = (0:Int))) && ((decide (x0.2.2.2.2.2.1 = (0:Int))) && ((decide (x0.2.2.2.2.2.2.1 = (0:Int))) && true))))))), ()), ())
 else
 some ((false, ()), ())
def impl_ChainOk_1 (k : Nat) (x0 : D_Module) : Option ((Bool × Unit) × Unit) :=
 (impl_ModuleOk k x0).bind fun t1 =>
 some (((!t1.1.1), ()), ())
def slices_IndexFunc_impl_Module_impl_Module_s2 (k : Nat) (rec : (Unit × ((List D_Module) × (Unit × (Int × (Int × Unit))))) → Option ((Unit × (Int × Unit)) ⊕ (Unit × Unit))) (v : (Unit × ((List D_Module) × (Unit × (Int × (Int × Unit)))))) : Option ((Unit × (Int × Unit)) ⊕ (Unit × Unit)) :=
 bif (decide (v.2.2.2.2.1 < v.2.2.2.1)) then
 bif ((decide ((0:Int) ≤ v.2.2.2.2.1)) && (decide (v.2.2.2.2.1 < (((List.length v.2.1) : Nat) : Int)))) then
 bif (decide ((Int.toNat v.2.2.2.2.1) < (List.length v.2.1))) then
 (impl_ChainOk_1 k (List.getD v.2.1 (Int.toNat v.2.2.2.2.1) z_Module)).bind fun t1 =>
 bif t1.1.1 then
 some (Sum.inl ((), v.2.2.2.2))
 else
 rec ((), v.2.1, (), v.2.2.2.1, (IntKind.wrap .i64 (v.2.2.2.2.1 + (1:Int))), ())
 else none
 else none
 else
 some (Sum.inr ((), ()))
def slices_IndexFunc_impl_Module_impl_Module (k : Nat) (x0 : (List D_Module)) (x1 : Unit) : Option ((Int × Unit) × Unit) :=
 (iter (slices_IndexFunc_impl_Module_impl_Module_s2 k) k ((), x0, (), (((List.length x0) : Nat) : Int), (0:Int), ())).bind fun o1 =>
 Sum.elim (fun a2 =>
 some (a2.2, ()))
 (fun b3 =>
 some (((-1 : Int), ()), ())) o1
def slices_ContainsFunc_impl_Module_impl_Module (k : Nat) (x0 : (List D_Module)) (x1 : Unit) : Option ((Bool × Unit) × Unit) :=
 (slices_IndexFunc_impl_Module_impl_Module k x0 ()).bind fun t1 =>
 some (((decide ((0:Int) ≤ t1.1.1)), ()), ())
def impl_ChainOk (k : Nat) (x0 : (List D_Module)) : Option ((Bool × Unit) × Unit) :=
 bif (decide ((((List.length x0) : Nat) : Int) ≤ (8:Int))) then
 (slices_ContainsFunc_impl_Module_impl_Module k x0 ()).bind fun t1 =>
 some (((!t1.1.1), ()), ())
 else
 some ((false, ()), ())
def impl_CmdOk (k : Nat) (x0 : D_Cmd) : Option ((Bool × Unit) × Unit) :=
 bif ((decide (x0.2.2.2.1.1 = (0:Int))) && ((((decide (x0.2.2.2.1.2.1.1.1 = (0:Int))) && ((decide (x0.2.2.2.1.2.1.1.2.1 = (0:Int))) && ((decide (x0.2.2.2.1.2.1.1.2.2.1 = (0:Int))) && ((decide (x0.2.2.2.1.2.1.1.2.2.2.1 = (0:Int))) && ((decide (x0.2.2.2.1.2.1.1.2.2.2.2.1 = (0:Int))) && true))))) && ((decide (x0.2.2.2.1.2.1.2.1 = (0:Int))) && true)) && ((((decide (x0.2.2.2.1.2.2.1.1.1 = (0:Int))) && ((decide (x0.2.2.2.1.2.2.1.1.2.1 = (0:Int))) && ((decide (x0.2.2.2.1.2.2.1.1.2.2.1 = (0:Int))) && ((decide (x0.2.2.2.1.2.2.1.1.2.2.2.1 = (0:Int))) && ((decide (x0.2.2.2.1.2.2.1.1.2.2.2.2.1 = (0:Int))) && true))))) && ((decide (x0.2.2.2.1.2.2.1.2.1 = (0:Int))) && true)) && ((decide (x0.2.2.2.1.2.2.2.1 = (0:Int))) && ((decide (x0.2.2.2.1.2.2.2.2.1 = (0:Int))) && ((decide (x0.2.2.2.1.2.2.2.2.2.1 = (0:Int))) && ((decide (x0.2.2.2.1.2.2.2.2.2.2.1 = (0:Int))) && ((decide (x0.2.2.2.1.2.2.2.2.2.2.2.1 = (0:Int))) && ((decide (x0.2.2.2.1.2.2.2.2.2.2.2.2.1 = (0:Int))) && ((decide (x0.2.2.2.1.2.2.2.2.2.2.2.2.2.1 = (0:Int))) && ((decide (x0.2.2.2.1.2.2.2.2.2.2.2.2.2.2.1 = (0:Int))) && true))))))))))) then
 bif ((decide (x0.2.2.2.2.1.1 = (0:Int))) && ((decide (x0.2.2.2.2.1.2.1 = (0:Int))) && ((decide (x0.2.2.2.2.1.2.2.1 = (0:Int))) && ((decide (x0.2.2.2.2.1.2.2.2.1 = (0:Int))) && ((x0.2.2.2.2.1.2.2.2.2.1 == false) && true))))) then
 bif (decide (x0.1 = (1:Int))) then
 bif (decide ((((List.length x0.2.2.2.2.2.1) : Nat) : Int) = (0:Int))) then
 (impl_within x0.2.1 (1:Int) (8:Int)).bind fun t1 =>
 bif t1.1.1 then
 (impl_isWeight x0.2.2.1).bind fun t2 =>
 some (t2.1, ())
 else
 some ((false, ()), ())
 else
 some ((false, ()), ())
 else
 bif (decide (x0.1 = (2:Int))) then
 bif (decide ((((List.length x0.2.2.2.2.2.1) : Nat) : Int) = (0:Int))) then
 (impl_within x0.2.1 (1:Int) (8:Int)).bind fun t3 =>
 bif t3.1.1 then
 some (((decide (x0.2.2.1 = (0:Int))), ()), ())
 else
 some ((false, ()), ())
 else
 some ((false, ()), ())
 else
 bif (decide (x0.1 = (3:Int))) then
 (impl_areZero k ([x0.2.1, x0.2.2.1, (((List.length x0.2.2.2.2.2.1) : Nat) : Int)] : List Int)).bind fun t4 =>
 bif t4.1.1 then
 bif ((decide (x0.2.2.2.2.1.1 = (0:Int))) && ((decide (x0.2.2.2.2.1.2.1 = (0:Int))) && ((decide (x0.2.2.2.2.1.2.2.1 = (0:Int))) && ((decide (x0.2.2.2.2.1.2.2.2.1 = (0:Int))) && ((x0.2.2.2.2.1.2.2.2.2.1 == false) && true))))) then
 (impl_RuleOk k x0.2.2.2.1).bind fun t5 =>
 some (t5.1, ())
 else
 some ((false, ()), ())
 else
 some ((false, ()), ())
 else
 bif (decide (x0.1 = (4:Int))) then
 bif (decide ((((List.length x0.2.2.2.2.2.1) : Nat) : Int) = (0:Int))) then
 (impl_within x0.2.1 (1:Int) (9999:Int)).bind fun t6 =>
 bif t6.1.1 then
 some (((decide (x0.2.2.1 = (0:Int))), ()), ())
 else
 some ((false, ()), ())
 else
 some ((false, ()), ())
 else
 bif (decide (x0.1 = (5:Int))) then
 (impl_areZero k ([x0.2.1, x0.2.2.1, (((List.length x0.2.2.2.2.2.1) : Nat) : Int)] : List Int)).bind fun t7 =>
 bif t7.1.1 then
 bif ((decide (x0.2.2.2.1.1 = (0:Int))) && ((((decide (x0.2.2.2.1.2.1.1.1 = (0:Int))) && ((decide (x0.2.2.2.1.2.1.1.2.1 = (0:Int))) && ((decide (x0.2.2.2.1.2.1.1.2.2.1 = (0:Int))) && ((decide (x0.2.2.2.1.2.1.1.2.2.2.1 = (0:Int))) && ((decide (x0.2.2.2.1.2.1.1.2.2.2.2.1 = (0:Int))) && true))))) && ((decide (x0.2.2.2.1.2.1.2.1 = (0:Int))) && true)) && ((((decide (x0.2.2.2.1.2.2.1.1.1 = (0:Int))) && ((decide (x0.2.2.2.1.2.2.1.1.2.1 = (0:Int))) && ((decide (x0.2.2.2.1.2.2.1.1.2.2.1 = (0:Int))) && ((decide (x0.2.2.2.1.2.2.1.1.2.2.2.1 = (0:Int))) && ((decide (x0.2.2.2.1.2.2.1.1.2.2.2.2.1 = (0:Int))) && true))))) && ((decide (x0.2.2.2.1.2.2.1.2.1 = (0:Int))) && true)) && ((decide (x0.2.2.2.1.2.2.2.1 = (0:Int))) && ((decide (x0.2.2.2.1.2.2.2.2.1 = (0:Int))) && ((decide (x0.2.2.2.1.2.2.2.2.2.1 = (0:Int))) && ((decide (x0.2.2.2.1.2.2.2.2.2.2.1 = (0:Int))) && ((decide (x0.2.2.2.1.2.2.2.2.2.2.2.1 = (0:Int))) && ((decide (x0.2.2.2.1.2.2.2.2.2.2.2.2.1 = (0:Int))) && ((decide (x0.2.2.2.1.2.2.2.2.2.2.2.2.2.1 = (0:Int))) && ((decide (x0.2.2.2.1.2.2.2.2.2.2.2.2.2.2.1 = (0:Int))) && true))))))))))) then
 (impl_LimitsOk x0.2.2.2.2.1).bind fun t8 =>
 some (t8.1, ())
 else
 some ((false, ()), ())
 else
 some ((false, ()), ())
 else
 bif (decide (x0.1 = (6:Int))) then
 bif (decide ((((List.length x0.2.2.2.2.2.1) : Nat) : Int) = (0:Int))) then
 (impl_within x0.2.1 (0:Int) (1:Int)).bind fun t9 =>
 bif t9.1.1 then
 some (((decide (x0.2.2.1 = (0:Int))), ()), ())
 else
 some ((false, ()), ())
 else
 some ((false, ()), ())
 else
 bif (decide (x0.1 = (7:Int))) then
 bif (decide (x0.2.2.1 = (0:Int))) then
 bif ((decide (x0.2.2.2.1.1 = (0:Int))) && ((((decide (x0.2.2.2.1.2.1.1.1 = (0:Int))) && ((decide (x0.2.2.2.1.2.1.1.2.1 = (0:Int))) && ((decide (x0.2.2.2.1.2.1.1.2.2.1 = (0:Int))) && ((decide (x0.2.2.2.1.2.1.1.2.2.2.1 = (0:Int))) && ((decide (x0.2.2.2.1.2.1.1.2.2.2.2.1 = (0:Int))) && true))))) && ((decide (x0.2.2.2.1.2.1.2.1 = (0:Int))) && true)) && ((((decide (x0.2.2.2.1.2.2.1.1.1 = (0:Int))) && ((decide (x0.2.2.2.1.2.2.1.1.2.1 = (0:Int))) && ((decide (x0.2.2.2.1.2.2.1.1.2.2.1 = (0:Int))) && ((decide (x0.2.2.2.1.2.2.1.1.2.2.2.1 = (0:Int))) && ((decide (x0.2.2.2.1.2.2.1.1.2.2.2.2.1 = (0:Int))) && true))))) && ((decide (x0.2.2.2.1.2.2.1.2.1 = (0:Int))) && true)) && ((decide (x0.2.2.2.1.2.2.2.1 = (0:Int))) && ((decide (x0.2.2.2.1.2.2.2.2.1 = (0:Int))) && ((decide (x0.2.2.2.1.2.2.2.2.2.1 = (0:Int))) && ((decide (x0.2.2.2.1.2.2.2.2.2.2.1 = (0:Int))) && ((decide (x0.2.2.2.1.2.2.2.2.2.2.2.1 = (0:Int))) && ((decide (x0.2.2.2.1.2.2.2.2.2.2.2.2.1 = (0:Int))) && ((decide (x0.2.2.2.1.2.2.2.2.2.2.2.2.2.1 = (0:Int))) && ((decide (x0.2.2.2.1.2.2.2.2.2.2.2.2.2.2.1 = (0:Int))) && true))))))))))) then
 bif ((decide (x0.2.2.2.2.1.1 = (0:Int))) && ((decide (x0.2.2.2.2.1.2.1 = (0:Int))) && ((decide (x0.2.2.2.2.1.2.2.1 = (0:Int))) && ((decide (x0.2.2.2.2.1.2.2.2.1 = (0:Int))) && ((x0.2.2.2.2.1.2.2.2.2.1 == false) && true))))) then
 (impl_within x0.2.1 (1:Int) (8:Int)).bind fun t10 =>
 bif t10.1.1 then
 (impl_ChainOk k x0.2.2.2.2.2.1).bind fun t11 =>
 some (t11.1, ())
 else
 some ((false, ()), ())
 else
 some ((false, ()), ())
 else
 some ((false, ()), ())
 else
 some ((false, ()), ())
 else
 bif (decide (x0.1 = (8:Int))) then
 bif (decide ((((List.length x0.2.2.2.2.2.1) : Nat) : Int) = (0:Int))) then
 (impl_within x0.2.1 (1:Int) (1000:Int)).bind fun t12 =>
 bif t12.1.1 then
 some (((decide (x0.2.2.1 = (0:Int))), ()), ())
 else
 some ((false, ()), ())
 else
 some ((false, ()), ())
 else
 some ((false, ()), ())
 else
 bif (decide (x0.1 = (1:Int))) then
 some ((false, ()), ())
 else
 bif (decide (x0.1 = (2:Int))) then
 some ((false, ()), ())
 else
 bif (decide (x0.1 = (3:Int))) then
 (impl_areZero k ([x0.2.1, x0.2.2.1, (((List.length x0.2.2.2.2.2.1) : Nat) : Int)] : List Int)).bind fun t13 =>
 bif t13.1.1 then
 bif ((decide (x0.2.2.2.2.1.1 = (0:Int))) && ((decide (x0.2.2.2.2.1.2.1 = (0:Int))) && ((decide (x0.2.2.2.2.1.2.2.1 = (0:Int))) && ((decide (x0.2.2.2.2.1.2.2.2.1 = (0:Int))) && ((x0.2.2.2.2.1.2.2.2.2.1 == false) && true))))) then
 (impl_RuleOk k x0.2.2.2.1).bind fun t14 =>
 some (t14.1, ())
 else
 some ((false, ()), ())
 else
 some ((false, ()), ())
 else
 bif (decide (x0.1 = (4:Int))) then
 some ((false, ()), ())
 else
 bif (decide (x0.1 = (5:Int))) then
 (impl_areZero k ([x0.2.1, x0.2.2.1, (((List.length x0.2.2.2.2.2.1) : Nat) : Int)] : List Int)).bind fun t15 =>
 bif t15.1.1 then
 bif ((decide (x0.2.2.2.1.1 = (0:Int))) && ((((decide (x0.2.2.2.1.2.1.1.1 = (0:Int))) && ((decide (x0.2.2.2.1.2.1.1.2.1 = (0:Int))) && ((decide (x0.2.2.2.1.2.1.1.2.2.1 = (0:Int))) && ((decide (x0.2.2.2.1.2.1.1.2.2.2.1 = (0:Int))) && ((decide (x0.2.2.2.1.2.1.1.2.2.2.2.1 = (0:Int))) && true))))) && ((decide (x0.2.2.2.1.2.1.2.1 = (0:Int))) && true)) && ((((decide (x0.2.2.2.1.2.2.1.1.1 = (0:Int))) && ((decide (x0.2.2.2.1.2.2.1.1.2.1 = (0:Int))) && ((decide (x0.2.2.2.1.2.2.1.1.2.2.1 = (0:Int))) && ((decide (x0.2.2.2.1.2.2.1.1.2.2.2.1 = (0:Int))) && ((decide (x0.2.2.2.1.2.2.1.1.2.2.2.2.1 = (0:Int))) && true))))) && ((decide (x0.2.2.2.1.2.2.1.2.1 = (0:Int))) && true)) && ((decide (x0.2.2.2.1.2.2.2.1 = (0:Int))) && ((decide (x0.2.2.2.1.2.2.2.2.1 = (0:Int))) && ((decide (x0.2.2.2.1.2.2.2.2.2.1 = (0:Int))) && ((decide (x0.2.2.2.1.2.2.2.2.2.2.1 = (0:Int))) && ((decide (x0.2.2.2.1.2.2.2.2.2.2.2.1 = (0:Int))) && ((decide (x0.2.2.2.1.2.2.2.2.2.2.2.2.1 = (0:Int))) && ((decide (x0.2.2.2.1.2.2.2.2.2.2.2.2.2.1 = (0:Int))) && ((decide (x0.2.2.2.1.2.2.2.2.2.2.2.2.2.2.1 = (0:Int))) && true))))))))))) then
 (impl_LimitsOk x0.2.2.2.2.1).bind fun t16 =>
 some (t16.1, ())
 else
 some ((false, ()), ())
 else
 some ((false, ()), ())
 else
 bif (decide (x0.1 = (6:Int))) then
 some ((false, ()), ())
 else
 bif (decide (x0.1 = (7:Int))) then
 bif (decide (x0.2.2.1 = (0:Int))) then
 bif ((decide (x0.2.2.2.1.1 = (0:Int))) && ((((decide (x0.2.2.2.1.2.1.1.1 = (0:Int))) && ((decide (x0.2.2.2.1.2.1.1.2.1 = (0:Int))) && ((decide (x0.2.2.2.1.2.1.1.2.2.1 = (0:Int))) && ((decide (x0.2.2.2.1.2.1.1.2.2.2.1 = (0:Int))) && ((decide (x0.2.2.2.1.2.1.1.2.2.2.2.1 = (0:Int))) && true))))) && ((decide (x0.2.2.2.1.2.1.2.1 = (0:Int))) && true)) && ((((decide (x0.2.2.2.1.2.2.1.1.1 = (0:Int))) && ((decide (x0.2.2.2.1.2.2.1.1.2.1 = (0:Int))) && ((decide (x0.2.2.2.1.2.2.1.1.2.2.1 = (0:Int))) && ((decide (x0.2.2.2.1.2.2.1.1.2.2.2.1 = (0:Int))) && ((decide (x0.2.2.2.1.2.2.1.1.2.2.2.2.1 = (0:Int))) && true))))) && ((decide (x0.2.2.2.1.2.2.1.2.1 = (0:Int))) && true)) && ((decide (x0.2.2.2.1.2.2.2.1 = (0:Int))) && ((decide (x0.2.2.2.1.2.2.2.2.1 = (0:Int))) && ((decide (x0.2.2.2.1.2.2.2.2.2.1 = (0:Int))) && ((decide (x0.2.2.2.1.2.2.2.2.2.2.1 = (0:Int))) && ((decide (x0.2.2.2.1.2.2.2.2.2.2.2.1 = (0:Int))) && ((decide (x0.2.2.2.1.2.2.2.2.2.2.2.2.1 = (0:Int))) && ((decide (x0.2.2.2.1.2.2.2.2.2.2.2.2.2.1 = (0:Int))) && ((decide (x0.2.2.2.1.2.2.2.2.2.2.2.2.2.2.1 = (0:Int))) && true))))))))))) then
 bif ((decide (x0.2.2.2.2.1.1 = (0:Int))) && ((decide (x0.2.2.2.2.1.2.1 = (0:Int))) && ((decide (x0.2.2.2.2.1.2.2.1 = (0:Int))) && ((decide (x0.2.2.2.2.1.2.2.2.1 = (0:Int))) && ((x0.2.2.2.2.1.2.2.2.2.1 == false) && true))))) then
 (impl_within x0.2.1 (1:Int) (8:Int)).bind fun t17 =>
 bif t17.1.1 then
 (impl_ChainOk k x0.2.2.2.2.2.1).bind fun t18 =>
 some (t18.1, ())
 else
 some ((false, ()), ())
 else
 some ((false, ()), ())
 else
 some ((false, ()), ())
 else
 some ((false, ()), ())
 else
 bif (decide (x0.1 = (8:Int))) then
 some ((false, ()), ())
 else
 some ((false, ()), ())
 else
 bif (decide (x0.1 = (1:Int))) then
 some ((false, ()), ())
 else
 bif (decide (x0.1 = (2:Int))) then
 some ((false, ()), ())
 else
 bif (decide (x0.1 = (3:Int))) then
 (impl_areZero k ([x0.2.1, x0.2.2.1, (((List.length x0.2.2.2.2.2.1) : Nat) : Int)] : List Int)).bind fun t19 =>
 bif t19.1.1 then
 bif ((decide (x0.2.2.2.2.1.1 = (0:Int))) && ((decide (x0.2.2.2.2.1.2.1 = (0:Int))) && ((decide (x0.2.2.2.2.1.2.2.1 = (0:Int))) && ((decide (x0.2.2.2.2.1.2.2.2.1 = (0:Int))) && ((x0.2.2.2.2.1.2.2.2.2.1 == false) && true))))) then
 (impl_RuleOk k x0.2.2.2.1).bind fun t20 =>
 some (t20.1, ())
 else
 some ((false, ()), ())
 else
 some ((false, ()), ())
 else
 bif (decide (x0.1 = (4:Int))) then
 some ((false, ()), ())
 else
 bif (decide (x0.1 = (5:Int))) then
 (impl_areZero k ([x0.2.1, x0.2.2.1, (((List.length x0.2.2.2.2.2.1) : Nat) : Int)] : List Int)).bind fun t21 =>
 bif t21.1.1 then
 bif ((decide (x0.2.2.2.1.1 = (0:Int))) && ((((decide (x0.2.2.2.1.2.1.1.1 = (0:Int))) && ((decide (x0.2.2.2.1.2.1.1.2.1 = (0:Int))) && ((decide (x0.2.2.2.1.2.1.1.2.2.1 = (0:Int))) && ((decide (x0.2.2.2.1.2.1.1.2.2.2.1 = (0:Int))) && ((decide (x0.2.2.2.1.2.1.1.2.2.2.2.1 = (0:Int))) && true))))) && ((decide (x0.2.2.2.1.2.1.2.1 = (0:Int))) && true)) && ((((decide (x0.2.2.2.1.2.2.1.1.1 = (0:Int))) && ((decide (x0.2.2.2.1.2.2.1.1.2.1 = (0:Int))) && ((decide (x0.2.2.2.1.2.2.1.1.2.2.1 = (0:Int))) && ((decide (x0.2.2.2.1.2.2.1.1.2.2.2.1 = (0:Int))) && ((decide (x0.2.2.2.1.2.2.1.1.2.2.2.2.1 = (0:Int))) && true))))) && ((decide (x0.2.2.2.1.2.2.1.2.1 = (0:Int))) && true)) && ((decide (x0.2.2.2.1.2.2.2.1 = (0:Int))) && ((decide (x0.2.2.2.1.2.2.2.2.1 = (0:Int))) && ((decide (x0.2.2.2.1.2.2.2.2.2.1 = (0:Int))) && ((decide (x0.2.2.2.1.2.2.2.2.2.2.1 = (0:Int))) && ((decide (x0.2.2.2.1.2.2.2.2.2.2.2.1 = (0:Int))) && ((decide (x0.2.2.2.1.2.2.2.2.2.2.2.2.1 = (0:Int))) && ((decide (x0.2.2.2.1.2.2.2.2.2.2.2.2.2.1 = (0:Int))) && ((decide (x0.2.2.2.1.2.2.2.2.2.2.2.2.2.2.1 = (0:Int))) && true))))))))))) then
 (impl_LimitsOk x0.2.2.2.2.1).bind fun t22 =>
 some (t22.1, ())
 else
 some ((false, ()), ())
 else
 some ((false, ()), ())
 else
 bif (decide (x0.1 = (6:Int))) then
 some ((false, ()), ())
 else
 bif (decide (x0.1 = (7:Int))) then
 bif (decide (x0.2.2.1 = (0:Int))) then
 bif ((decide (x0.2.2.2.1.1 = (0:Int))) && ((((decide (x0.2.2.2.1.2.1.1.1 = (0:Int))) && ((decide (x0.2.2.2.1.2.1.1.2.1 = (0:Int))) && ((decide (x0.2.2.2.1.2.1.1.2.2.1 = (0:Int))) && ((decide (x0.2.2.2.1.2.1.1.2.2.2.1 = (0:Int))) && ((decide (x0.2.2.2.1.2.1.1.2.2.2.2.1 = (0:Int))) && true))))) && ((decide (x0.2.2.2.1.2.1.2.1 = (0:Int))) && true)) && ((((decide (x0.2.2.2.1.2.2.1.1.1 = (0:Int))) && ((decide (x0.2.2.2.1.2.2.1.1.2.1 = (0:Int))) && ((decide (x0.2.2.2.1.2.2.1.1.2.2.1 = (0:Int))) && ((decide (x0.2.2.2.1.2.2.1.1.2.2.2.1 = (0:Int))) && ((decide (x0.2.2.2.1.2.2.1.1.2.2.2.2.1 = (0:Int))) && true))))) && ((decide (x0.2.2.2.1.2.2.1.2.1 = (0:Int))) && true)) && ((decide (x0.2.2.2.1.2.2.2.1 = (0:Int))) && ((decide (x0.2.2.2.1.2.2.2.2.1 = (0:Int))) && ((decide (x0.2.2.2.1.2.2.2.2.2.1 = (0:Int))) && ((decide (x0.2.2.2.1.2.2.2.2.2.2.1 = (0:Int))) && ((decide (x0.2.2.2.1.2.2.2.2.2.2.2.1 = (0:Int))) && ((decide (x0.2.2.2.1.2.2.2.2.2.2.2.2.1 = (0:Int))) && ((decide (x0.2.2.2.1.2.2.2.2.2.2.2.2.2.1 = (0:Int))) && ((decide (x0.2.2.2.1.2.2.2.2.2.2.2.2.2.2.1 = (0:Int))) && true))))))))))) then
 bif ((decide (x0.2.2.2.2.1.1 = (0:Int))) && ((decide (x0.2.2.2.2.1.2.1 = (0:Int))) && ((decide (x0.2.2.2.2.1.2.2.1 = (0:Int))) && ((decide (x0.2.2.2.2.1.2.2.2.1 = (0:Int))) && ((x0.2.2.2.2.1.2.2.2.2.1 == false) && true))))) then
 (impl_within x0.2.1 (1:Int) (8:Int)).bind fun t23 =>
 bif t23.1.1 then
 (impl_ChainOk k x0.2.2.2.2.2.1).bind fun t24 =>
 some (t24.1, ())
 else
 some ((false, ()), ())
 else
 some ((false, ()), ())
 else
 some ((false, ()), ())
 else
 some ((false, ()), ())
 else
 bif (decide (x0.1 = (8:Int))) then
 some ((false, ()), ())
 else
 some ((false, ()), ())
def impl_Put16 (k : Nat) (x0 : Int) : Option (D_cursor × Unit) :=
 (impl_put k x0 (2:Int)).bind fun t1 =>
 some (t1.1, ())
def impl_put16s_s3 (k : Nat) (rec : (Unit × ((List Int) × ((List Int) × (Int × (Int × Unit))))) → Option ((Unit × D_cursor))) (v : (Unit × ((List Int) × ((List Int) × (Int × (Int × Unit)))))) : Option ((Unit × D_cursor)) :=
 bif (decide (v.2.2.2.2.1 < v.2.2.2.1)) then
 bif ((decide ((0:Int) ≤ v.2.2.2.2.1)) && (decide (v.2.2.2.2.1 < (((List.length v.2.2.1) : Nat) : Int)))) then
 bif (decide ((Int.toNat v.2.2.2.2.1) < (List.length v.2.2.1))) then
 (impl_Put16 k (List.getD v.2.2.1 (Int.toNat v.2.2.2.2.1) (0:Int))).bind fun t1 =>
 bif (decide ((((List.length v.2.1) + (List.length t1.1.1)) * 1) ≤ (1099511627776:Nat))) then
 rec ((), (v.2.1 ++ t1.1.1), v.2.2.1, v.2.2.2.1, (IntKind.wrap .i64 (v.2.2.2.2.1 + (1:Int))), ())
 else none
 else none
 else none
 else
 some ((), v.2.1, ())
def impl_put16s (k : Nat) (x0 : (List Int)) : Option (D_cursor × Unit) :=
 (iter (impl_put16s_s3 k) k ((), ([] : List Int), x0, (((List.length x0) : Nat) : Int), (0:Int), ())).bind fun o1 =>
 some (o1.2, ())
def impl_PrefixBytes (k : Nat) (x0 : D_Prefix) : Option (D_cursor × Unit) :=
 (impl_PrefixOk k x0).bind fun t1 =>
 bif (!t1.1.1) then
 some ((([] : List Int), ()), ())
 else
 (impl_isAny x0).bind fun t2 =>
 bif t2.1.1 then
 some ((([(0:Int)] : List Int), ()), ())
 else
 (impl_AddrBytes k x0.1).bind fun t3 =>
 (slices_Concat_byte_byte k ([([(IntKind.wrap .u8 x0.1.1)] : List Int), t3.1.1, ([(IntKind.wrap .u8 x0.2.1)] : List Int)] : List (List Int))).bind fun t4 =>
 some (t4.1, ())
def impl_bodyOf_s19 (k : Nat) (rec : (Unit × ((List Int) × ((List D_Module) × (Int × (Int × Unit))))) → Option ((Unit × D_cursor))) (v : (Unit × ((List Int) × ((List D_Module) × (Int × (Int × Unit)))))) : Option ((Unit × D_cursor)) :=
 bif (decide (v.2.2.2.2.1 < v.2.2.2.1)) then
 bif ((decide ((0:Int) ≤ v.2.2.2.2.1)) && (decide (v.2.2.2.2.1 < (((List.length v.2.2.1) : Nat) : Int)))) then
 bif (decide ((Int.toNat v.2.2.2.2.1) < (List.length v.2.2.1))) then
 (impl_PrefixBytes k (List.getD v.2.2.1 (Int.toNat v.2.2.2.2.1) z_Module).2.1).bind fun t15 =>
 (impl_PrefixBytes k (List.getD v.2.2.1 (Int.toNat v.2.2.2.2.1) z_Module).2.2.1).bind fun t16 =>
 (impl_put16s k ([(List.getD v.2.2.1 (Int.toNat v.2.2.2.2.1) z_Module).2.2.2.1, (List.getD v.2.2.1 (Int.toNat v.2.2.2.2.1) z_Module).2.2.2.2.1, (List.getD v.2.2.1 (Int.toNat v.2.2.2.2.1) z_Module).2.2.2.2.2.1] : List Int)).bind fun t17 =>
 (slices_Concat_byte_byte k ([v.2.1, ([(IntKind.wrap .u8 (List.getD v.2.2.1 (Int.toNat v.2.2.2.2.1) z_Module).1)] : List Int), t15.1.1, t16.1.1, t17.1.1, ([(IntKind.wrap .u8 (List.getD v.2.2.1 (Int.toNat v.2.2.2.2.1) z_Module).2.2.2.2.2.2.1)] : List Int)] : List (List Int))).bind fun t18 =>
 rec ((), t18.1.1, v.2.2.1, v.2.2.2.1, (IntKind.wrap .i64 (v.2.2.2.2.1 + (1:Int))), ())
 else none
 else none
 else
 some ((), v.2.1, ())
def impl_bodyOf (k : Nat) (x0 : D_Cmd) : Option (D_cursor × Unit) :=
 bif (decide (x0.1 = (1:Int))) then
 some ((([(IntKind.wrap .u8 x0.2.1), (IntKind.wrap .u8 x0.2.2.1)] : List Int), ()), ())
 else
 bif (decide (x0.1 = (4:Int))) then
 bif (decide (x0.1 = (4:Int))) then
 (impl_Put16 k x0.2.1).bind fun t1 =>
 some (t1.1, ())
 else
 bif (decide (x0.1 = (3:Int))) then
 (impl_put16s k ([x0.2.2.2.1.2.2.2.1, x0.2.2.2.1.2.2.2.2.1, x0.2.2.2.1.2.2.2.2.2.1, x0.2.2.2.1.2.2.2.2.2.2.1, x0.2.2.2.1.2.2.2.2.2.2.2.1] : List Int)).bind fun t2 =>
 (impl_Put16 k x0.2.2.2.1.1).bind fun t3 =>
 (impl_PrefixBytes k x0.2.2.2.1.2.1).bind fun t4 =>
 (impl_PrefixBytes k x0.2.2.2.1.2.2.1).bind fun t5 =>
 (slices_Concat_byte_byte k ([t3.1.1, t4.1.1, t5.1.1, t2.1.1, ([(IntKind.wrap .u8 x0.2.2.2.1.2.2.2.2.2.2.2.2.1), (IntKind.wrap .u8 x0.2.2.2.1.2.2.2.2.2.2.2.2.2.1), (IntKind.wrap .u8 x0.2.2.2.1.2.2.2.2.2.2.2.2.2.2.1)] : List Int)] : List (List Int))).bind fun t6 =>
 some (t6.1, ())
 else
 bif (decide (x0.1 = (5:Int))) then
 bif x0.2.2.2.2.1.2.2.2.2.1 then
 (impl_Put32 k x0.2.2.2.2.1.2.1).bind fun t7 =>
 (impl_Put32 k x0.2.2.2.2.1.2.2.1).bind fun t8 =>
 (impl_Put32 k x0.2.2.2.2.1.2.2.2.1).bind fun t9 =>
 (slices_Concat_byte_byte k ([([(IntKind.wrap .u8 x0.2.2.2.2.1.1)] : List Int), t7.1.1, t8.1.1, t9.1.1, ([(1:Int)] : List Int)] : List (List Int))).bind fun t10 =>
 some (t10.1, ())
 else
 (impl_Put32 k x0.2.2.2.2.1.2.1).bind fun t11 =>
 (impl_Put32 k x0.2.2.2.2.1.2.2.1).bind fun t12 =>
 (impl_Put32 k x0.2.2.2.2.1.2.2.2.1).bind fun t13 =>
 (slices_Concat_byte_byte k ([([(IntKind.wrap .u8 x0.2.2.2.2.1.1)] : List Int), t11.1.1, t12.1.1, t13.1.1, ([(0:Int)] : List Int)] : List (List Int))).bind fun t14 =>
 some (t14.1, ())
 else
 bif (decide (x0.1 = (7:Int))) then
 (iter (impl_bodyOf_s19 k) k ((), ([(IntKind.wrap .u8 x0.2.1), (IntKind.wrap .u8 (((List.length x0.2.2.2.2.2.1) : Nat) : Int))] : List Int), x0.2.2.2.2.2.1, (((List.length x0.2.2.2.2.2.1) : Nat) : Int), (0:Int), ())).bind fun o15 =>
 some (o15.2, ())
 else
 some ((([(IntKind.wrap .u8 x0.2.1)] : List Int), ()), ())
 else
 bif (decide (x0.1 = (8:Int))) then
 (impl_Put16 k x0.2.1).bind fun t16 =>
 some (t16.1, ())
 else
 bif (decide (x0.1 = (3:Int))) then
 (impl_put16s k ([x0.2.2.2.1.2.2.2.1, x0.2.2.2.1.2.2.2.2.1, x0.2.2.2.1.2.2.2.2.2.1, x0.2.2.2.1.2.2.2.2.2.2.1, x0.2.2.2.1.2.2.2.2.2.2.2.1] : List Int)).bind fun t17 =>
 (impl_Put16 k x0.2.2.2.1.1).bind fun t18 =>
 (impl_PrefixBytes k x0.2.2.2.1.2.1).bind fun t19 =>
 (impl_PrefixBytes k x0.2.2.2.1.2.2.1).bind fun t20 =>
 (slices_Concat_byte_byte k ([t18.1.1, t19.1.1, t20.1.1, t17.1.1, ([(IntKind.wrap .u8 x0.2.2.2.1.2.2.2.2.2.2.2.2.1), (IntKind.wrap .u8 x0.2.2.2.1.2.2.2.2.2.2.2.2.2.1), (IntKind.wrap .u8 x0.2.2.2.1.2.2.2.2.2.2.2.2.2.2.1)] : List Int)] : List (List Int))).bind fun t21 =>
 some (t21.1, ())
 else
 bif (decide (x0.1 = (5:Int))) then
 bif x0.2.2.2.2.1.2.2.2.2.1 then
 (impl_Put32 k x0.2.2.2.2.1.2.1).bind fun t22 =>
 (impl_Put32 k x0.2.2.2.2.1.2.2.1).bind fun t23 =>
 (impl_Put32 k x0.2.2.2.2.1.2.2.2.1).bind fun t24 =>
 (slices_Concat_byte_byte k ([([(IntKind.wrap .u8 x0.2.2.2.2.1.1)] : List Int), t22.1.1, t23.1.1, t24.1.1, ([(1:Int)] : List Int)] : List (List Int))).bind fun t25 =>
 some (t25.1, ())
 else
 (impl_Put32 k x0.2.2.2.2.1.2.1).bind fun t26 =>
 (impl_Put32 k x0.2.2.2.2.1.2.2.1).bind fun t27 =>
 (impl_Put32 k x0.2.2.2.2.1.2.2.2.1).bind fun t28 =>
 (slices_Concat_byte_byte k ([([(IntKind.wrap .u8 x0.2.2.2.2.1.1)] : List Int), t26.1.1, t27.1.1, t28.1.1, ([(0:Int)] : List Int)] : List (List Int))).bind fun t29 =>
 some (t29.1, ())
 else
 bif (decide (x0.1 = (7:Int))) then
 (iter (impl_bodyOf_s19 k) k ((), ([(IntKind.wrap .u8 x0.2.1), (IntKind.wrap .u8 (((List.length x0.2.2.2.2.2.1) : Nat) : Int))] : List Int), x0.2.2.2.2.2.1, (((List.length x0.2.2.2.2.2.1) : Nat) : Int), (0:Int), ())).bind fun o30 =>
 some (o30.2, ())
 else
 some ((([(IntKind.wrap .u8 x0.2.1)] : List Int), ()), ())
def impl_CmdBytes (k : Nat) (x0 : D_Cmd) : Option (D_cursor × Unit) :=
 (impl_CmdOk k x0).bind fun t1 =>
 bif (!t1.1.1) then
 some ((([] : List Int), ()), ())
 else
 (impl_bodyOf k x0).bind fun t2 =>
 bif (decide ((((1:Nat) + (List.length t2.1.1)) * 1) ≤ (1099511627776:Nat))) then
 (impl_Checksum k (([(IntKind.wrap .u8 x0.1)] : List Int) ++ t2.1.1)).bind fun t3 =>
 (impl_Put16 k t3.1.1).bind fun t4 =>
 bif (decide ((((List.length (([(IntKind.wrap .u8 x0.1)] : List Int) ++ t2.1.1)) + (List.length t4.1.1)) * 1) ≤ (1099511627776:Nat))) then
 some ((((([(IntKind.wrap .u8 x0.1)] : List Int) ++ t2.1.1) ++ t4.1.1), ()), ())
 else none
 else none
def slices_Equal_byte_byte_s4 (rec : (Unit × ((List Int) × ((List Int) × (Int × (Int × Unit))))) → Option ((Unit × (Bool × Unit)) ⊕ (Unit × Unit))) (v : (Unit × ((List Int) × ((List Int) × (Int × (Int × Unit)))))) : Option ((Unit × (Bool × Unit)) ⊕ (Unit × Unit)) :=
 bif (decide (v.2.2.2.2.1 < v.2.2.2.1)) then
 bif ((decide ((0:Int) ≤ v.2.2.2.2.1)) && (decide (v.2.2.2.2.1 < (((List.length v.2.1) : Nat) : Int)))) then
 bif (decide ((Int.toNat v.2.2.2.2.1) < (List.length v.2.1))) then
 bif ((decide ((0:Int) ≤ v.2.2.2.2.1)) && (decide (v.2.2.2.2.1 < (((List.length v.2.2.1) : Nat) : Int)))) then
 bif (decide ((Int.toNat v.2.2.2.2.1) < (List.length v.2.2.1))) then
 bif (!(decide ((List.getD v.2.1 (Int.toNat v.2.2.2.2.1) (0:Int)) = (List.getD v.2.2.1 (Int.toNat v.2.2.2.2.1) (0:Int))))) then
 some (Sum.inl ((), false, ()))
 else
 rec ((), v.2.1, v.2.2.1, v.2.2.2.1, (IntKind.wrap .i64 (v.2.2.2.2.1 + (1:Int))), ())
 else none
 else none
 else none
 else none
 else
 some (Sum.inr ((), ()))
def slices_Equal_byte_byte (k : Nat) (x0 : (List Int)) (x1 : (List Int)) : Option ((Bool × Unit) × Unit) :=
 bif (!(decide ((((List.length x0) : Nat) : Int) = (((List.length x1) : Nat) : Int)))) then
 some ((false, ()), ())
 else
 (iter (slices_Equal_byte_byte_s4) k ((), x0, x1, (((List.length x0) : Nat) : Int), (0:Int), ())).bind fun o1 =>
 Sum.elim (fun a2 =>
 some (a2.2, ()))
 (fun b3 =>
 some ((true, ()), ())) o1
def impl_cursor_take (k : Nat) (x0 : D_cursor) (x1 : Int) : Option ((Int × Unit) × (D_cursor × Unit)) :=
 bif (decide ((((List.length x0.1) : Nat) : Int) < x1)) then
 some (((0:Int), ()), (([] : List Int), ()), ())
 else
 bif ((decide ((0:Int) ≤ x1)) && (decide (x1 ≤ (((List.length x0.1) : Nat) : Int)))) then
 (impl_beOf k (List.take (Int.toNat x1) x0.1)).bind fun t1 =>
 bif (((decide ((0:Int) ≤ x1)) && (decide (x1 ≤ (((List.length x0.1) : Nat) : Int)))) && (decide ((((List.length x0.1) : Nat) : Int) ≤ (((List.length x0.1) : Nat) : Int)))) then
 some (t1.1, ((List.take ((List.length x0.1) - (Int.toNat x1)) (List.drop (Int.toNat x1) x0.1)), ()), ())
 else none
 else none
def impl_cursor_prefix (k : Nat) (x0 : D_cursor) : Option ((D_Prefix × Unit) × (D_cursor × Unit)) :=
 (impl_cursor_take k x0 (1:Int)).bind fun t1 =>
 bif (decide (t1.1.1 = (0:Int))) then
 some ((((t1.1.1, (0:Int), (0:Int), (0:Int), (0:Int), ()), (0:Int), ()), ()), t1.2)
 else
 bif (decide (t1.1.1 = (6:Int))) then
 (impl_cursor_take k t1.2.1 (4:Int)).bind fun t2 =>
 (impl_cursor_take k t2.2.1 (4:Int)).bind fun t3 =>
 (impl_cursor_take k t3.2.1 (4:Int)).bind fun t4 =>
 (impl_cursor_take k t4.2.1 (4:Int)).bind fun t5 =>
 (impl_cursor_take k t5.2.1 (1:Int)).bind fun t6 =>
 some ((((t1.1.1, t2.1.1, t3.1.1, t4.1.1, t5.1), t6.1), ()), t6.2)
 else
 (impl_cursor_take k t1.2.1 (4:Int)).bind fun t7 =>
 (impl_cursor_take k t7.2.1 (1:Int)).bind fun t8 =>
 some ((((t1.1.1, (0:Int), (0:Int), (0:Int), t7.1), t8.1), ()), t8.2)
def impl_cursor_proto (k : Nat) (x0 : D_cursor) : Option ((Int × Unit) × (D_cursor × Unit)) :=
 (impl_cursor_take k x0 (2:Int)).bind fun t1 =>
 bif (decide (t1.1.1 = (65535:Int))) then
 some (((-1 : Int), ()), t1.2)
 else
 some (t1.1, t1.2)
def impl_cursor_module (k : Nat) (x0 : D_cursor) : Option ((D_Module × Unit) × (D_cursor × Unit)) :=
 (impl_cursor_take k x0 (1:Int)).bind fun t1 =>
 (impl_cursor_prefix k t1.2.1).bind fun t2 =>
 (impl_cursor_prefix k t2.2.1).bind fun t3 =>
 (impl_cursor_proto k t3.2.1).bind fun t4 =>
 (impl_cursor_take k t4.2.1 (2:Int)).bind fun t5 =>
 (impl_cursor_take k t5.2.1 (2:Int)).bind fun t6 =>
 (impl_cursor_take k t6.2.1 (1:Int)).bind fun t7 =>
 some (((t1.1.1, t2.1.1, t3.1.1, t4.1.1, t5.1.1, t6.1.1, t7.1), ()), t7.2)
def impl_cursor_cmd_s22 (k : Nat) (rec : ((D_cursor × Unit) × (Unit × (D_Cmd × (D_Cmd × (Int × (Int × Unit)))))) → Option (((D_cursor × Unit) × (D_Cmd × (D_Cmd × Unit))))) (v : ((D_cursor × Unit) × (Unit × (D_Cmd × (D_Cmd × (Int × (Int × Unit))))))) : Option (((D_cursor × Unit) × (D_Cmd × (D_Cmd × Unit)))) :=
 bif (decide (v.2.2.2.2.2.1 < v.2.2.2.2.1)) then
 (impl_cursor_module k (v.1.1.1, ())).bind fun t24 =>
 bif (decide ((((List.length v.2.2.2.1.2.2.2.2.2.1) + (1:Nat)) * 136) ≤ (1099511627776:Nat))) then
 rec (t24.2, (), v.2.2.1, (v.2.2.2.1.1, v.2.2.2.1.2.1, v.2.2.2.1.2.2.1, v.2.2.2.1.2.2.2.1, v.2.2.2.1.2.2.2.2.1, (v.2.2.2.1.2.2.2.2.2.1 ++ ([t24.1.1] : List D_Module)), ()), v.2.2.2.2.1, (IntKind.wrap .i64 (v.2.2.2.2.2.1 + (1:Int))), ())
 else none
 else
 some (((v.1.1.1, ()), ()), v.2.2.1, v.2.2.2.1, ())
def impl_cursor_cmd (k : Nat) (x0 : D_cursor) : Option ((D_Cmd × Unit) × (D_cursor × Unit)) :=
 (impl_cursor_take k x0 (1:Int)).bind fun t1 =>
 bif (decide (t1.1.1 = (1:Int))) then
 (impl_cursor_take k t1.2.1 (1:Int)).bind fun t2 =>
 (impl_cursor_take k t2.2.1 (1:Int)).bind fun t3 =>
 some (((t1.1.1, t2.1.1, t3.1.1, zzR, ((0:Int), (0:Int), (0:Int), (0:Int), false, ()), ([] : List D_Module), ()), ()), t3.2)
 else
 bif (decide (t1.1.1 = (2:Int))) then
 bif (decide (t1.1.1 = (2:Int))) then
 (impl_cursor_take k t1.2.1 (1:Int)).bind fun t4 =>
 some (((t1.1.1, t4.1.1, (0:Int), zzR, ((0:Int), (0:Int), (0:Int), (0:Int), false, ()), ([] : List D_Module), ()), ()), t4.2)
 else
 bif (decide (t1.1.1 = (4:Int))) then
 bif (decide (t1.1.1 = (4:Int))) then
 (impl_cursor_take k t1.2.1 (2:Int)).bind fun t5 =>
 some (((t1.1.1, t5.1.1, (0:Int), zzR, ((0:Int), (0:Int), (0:Int), (0:Int), false, ()), ([] : List D_Module), ()), ()), t5.2)
 else
 bif (decide (t1.1.1 = (3:Int))) then
 (impl_cursor_take k t1.2.1 (2:Int)).bind fun t6 =>
 (impl_cursor_prefix k t6.2.1).bind fun t7 =>
 (impl_cursor_prefix k t7.2.1).bind fun t8 =>
 (impl_cursor_proto k t8.2.1).bind fun t9 =>
 (impl_cursor_take k t9.2.1 (2:Int)).bind fun t10 =>
 (impl_cursor_take k t10.2.1 (2:Int)).bind fun t11 =>
 (impl_cursor_take k t11.2.1 (2:Int)).bind fun t12 =>
 (impl_cursor_take k t12.2.1 (2:Int)).bind fun t13 =>
 (impl_cursor_take k t13.2.1 (1:Int)).bind fun t14 =>
 (impl_cursor_take k t14.2.1 (1:Int)).bind fun t15 =>
 (impl_cursor_take k t15.2.1 (1:Int)).bind fun t16 =>
 some (((t1.1.1, (0:Int), (0:Int), (t6.1.1, t7.1.1, t8.1.1, t9.1.1, t10.1.1, t11.1.1, t12.1.1, t13.1.1, t14.1.1, t15.1.1, t16.1), ((0:Int), (0:Int), (0:Int), (0:Int), false, ()), ([] : List D_Module), ()), ()), t16.2)
 else
 bif (decide (t1.1.1 = (5:Int))) then
 (impl_cursor_take k t1.2.1 (1:Int)).bind fun t17 =>
 (impl_cursor_take k t17.2.1 (4:Int)).bind fun t18 =>
 (impl_cursor_take k t18.2.1 (4:Int)).bind fun t19 =>
 (impl_cursor_take k t19.2.1 (4:Int)).bind fun t20 =>
 (impl_cursor_take k t20.2.1 (1:Int)).bind fun t21 =>
 some (((t1.1.1, (0:Int), (0:Int), zzR, (t17.1.1, t18.1.1, t19.1.1, t20.1.1, (decide (t21.1.1 = (1:Int))), ()), ([] : List D_Module), ()), ()), t21.2)
 else
 bif (decide (t1.1.1 = (7:Int))) then
 (impl_cursor_take k t1.2.1 (1:Int)).bind fun t22 =>
 (impl_cursor_take k t22.2.1 (1:Int)).bind fun t23 =>
 (iter (impl_cursor_cmd_s22 k) k (t23.2, (), zzC, (t1.1.1, t22.1.1, (0:Int), zzR, ((0:Int), (0:Int), (0:Int), (0:Int), false, ()), ([] : List D_Module), ()), t23.1.1, (0:Int), ())).bind fun o24 =>
 some (o24.2.2, (o24.1.1.1, ()), ())
 else
 some (((t1.1.1, (0:Int), (0:Int), zzR, ((0:Int), (0:Int), (0:Int), (0:Int), false, ()), ([] : List D_Module), ()), ()), t1.2)
 else
 bif (decide (t1.1.1 = (8:Int))) then
 (impl_cursor_take k t1.2.1 (2:Int)).bind fun t25 =>
 some (((t1.1.1, t25.1.1, (0:Int), zzR, ((0:Int), (0:Int), (0:Int), (0:Int), false, ()), ([] : List D_Module), ()), ()), t25.2)
 else
 bif (decide (t1.1.1 = (3:Int))) then
 (impl_cursor_take k t1.2.1 (2:Int)).bind fun t26 =>
 (impl_cursor_prefix k t26.2.1).bind fun t27 =>
 (impl_cursor_prefix k t27.2.1).bind fun t28 =>
 (impl_cursor_proto k t28.2.1).bind fun t29 =>
 (impl_cursor_take k t29.2.1 (2:Int)).bind fun t30 =>
 (impl_cursor_take k t30.2.1 (2:Int)).bind fun t31 =>
 (impl_cursor_take k t31.2.1 (2:Int)).bind fun t32 =>
 (impl_cursor_take k t32.2.1 (2:Int)).bind fun t33 =>
 (impl_cursor_take k t33.2.1 (1:Int)).bind fun t34 =>
 (impl_cursor_take k t34.2.1 (1:Int)).bind fun t35 =>
 (impl_cursor_take k t35.2.1 (1:Int)).bind fun t36 =>
 some (((t1.1.1, (0:Int), (0:Int), (t26.1.1, t27.1.1, t28.1.1, t29.1.1, t30.1.1, t31.1.1, t32.1.1, t33.1.1, t34.1.1, t35.1.1, t36.1), ((0:Int), (0:Int), (0:Int), (0:Int), false, ()), ([] : List D_Module), ()), ()), t36.2)
 else
 bif (decide (t1.1.1 = (5:Int))) then
 (impl_cursor_take k t1.2.1 (1:Int)).bind fun t37 =>
 (impl_cursor_take k t37.2.1 (4:Int)).bind fun t38 =>
 (impl_cursor_take k t38.2.1 (4:Int)).bind fun t39 =>
 (impl_cursor_take k t39.2.1 (4:Int)).bind fun t40 =>
 (impl_cursor_take k t40.2.1 (1:Int)).bind fun t41 =>
 some (((t1.1.1, (0:Int), (0:Int), zzR, (t37.1.1, t38.1.1, t39.1.1, t40.1.1, (decide (t41.1.1 = (1:Int))), ()), ([] : List D_Module), ()), ()), t41.2)
 else
 bif (decide (t1.1.1 = (7:Int))) then
 (impl_cursor_take k t1.2.1 (1:Int)).bind fun t42 =>
 (impl_cursor_take k t42.2.1 (1:Int)).bind fun t43 =>
 (iter (impl_cursor_cmd_s22 k) k (t43.2, (), zzC, (t1.1.1, t42.1.1, (0:Int), zzR, ((0:Int), (0:Int), (0:Int), (0:Int), false, ()), ([] : List D_Module), ()), t43.1.1, (0:Int), ())).bind fun o44 =>
 some (o44.2.2, (o44.1.1.1, ()), ())
 else
 some (((t1.1.1, (0:Int), (0:Int), zzR, ((0:Int), (0:Int), (0:Int), (0:Int), false, ()), ([] : List D_Module), ()), ()), t1.2)
 else
 bif (decide (t1.1.1 = (6:Int))) then
 (impl_cursor_take k t1.2.1 (1:Int)).bind fun t45 =>
 some (((t1.1.1, t45.1.1, (0:Int), zzR, ((0:Int), (0:Int), (0:Int), (0:Int), false, ()), ([] : List D_Module), ()), ()), t45.2)
 else
 bif (decide (t1.1.1 = (4:Int))) then
 bif (decide (t1.1.1 = (4:Int))) then
 (impl_cursor_take k t1.2.1 (2:Int)).bind fun t46 =>
 some (((t1.1.1, t46.1.1, (0:Int), zzR, ((0:Int), (0:Int), (0:Int), (0:Int), false, ()), ([] : List D_Module), ()), ()), t46.2)
 else
 bif (decide (t1.1.1 = (3:Int))) then
 (impl_cursor_take k t1.2.1 (2:Int)).bind fun t47 =>
 (impl_cursor_prefix k t47.2.1).bind fun t48 =>
 (impl_cursor_prefix k t48.2.1).bind fun t49 =>
 (impl_cursor_proto k t49.2.1).bind fun t50 =>
 (impl_cursor_take k t50.2.1 (2:Int)).bind fun t51 =>
 (impl_cursor_take k t51.2.1 (2:Int)).bind fun t52 =>
 (impl_cursor_take k t52.2.1 (2:Int)).bind fun t53 =>
 (impl_cursor_take k t53.2.1 (2:Int)).bind fun t54 =>
 (impl_cursor_take k t54.2.1 (1:Int)).bind fun t55 =>
 (impl_cursor_take k t55.2.1 (1:Int)).bind fun t56 =>
 (impl_cursor_take k t56.2.1 (1:Int)).bind fun t57 =>
 some (((t1.1.1, (0:Int), (0:Int), (t47.1.1, t48.1.1, t49.1.1, t50.1.1, t51.1.1, t52.1.1, t53.1.1, t54.1.1, t55.1.1, t56.1.1, t57.1), ((0:Int), (0:Int), (0:Int), (0:Int), false, ()), ([] : List D_Module), ()), ()), t57.2)
 else
 bif (decide (t1.1.1 = (5:Int))) then
 (impl_cursor_take k t1.2.1 (1:Int)).bind fun t58 =>
 (impl_cursor_take k t58.2.1 (4:Int)).bind fun t59 =>
 (impl_cursor_take k t59.2.1 (4:Int)).bind fun t60 =>
 (impl_cursor_take k t60.2.1 (4:Int)).bind fun t61 =>
 (impl_cursor_take k t61.2.1 (1:Int)).bind fun t62 =>
 some (((t1.1.1, (0:Int), (0:Int), zzR, (t58.1.1, t59.1.1, t60.1.1, t61.1.1, (decide (t62.1.1 = (1:Int))), ()), ([] : List D_Module), ()), ()), t62.2)
 else
 bif (decide (t1.1.1 = (7:Int))) then
 (impl_cursor_take k t1.2.1 (1:Int)).bind fun t63 =>
 (impl_cursor_take k t63.2.1 (1:Int)).bind fun t64 =>
 (iter (impl_cursor_cmd_s22 k) k (t64.2, (), zzC, (t1.1.1, t63.1.1, (0:Int), zzR, ((0:Int), (0:Int), (0:Int), (0:Int), false, ()), ([] : List D_Module), ()), t64.1.1, (0:Int), ())).bind fun o65 =>
 some (o65.2.2, (o65.1.1.1, ()), ())
 else
 some (((t1.1.1, (0:Int), (0:Int), zzR, ((0:Int), (0:Int), (0:Int), (0:Int), false, ()), ([] : List D_Module), ()), ()), t1.2)
 else
 bif (decide (t1.1.1 = (8:Int))) then
 (impl_cursor_take k t1.2.1 (2:Int)).bind fun t66 =>
 some (((t1.1.1, t66.1.1, (0:Int), zzR, ((0:Int), (0:Int), (0:Int), (0:Int), false, ()), ([] : List D_Module), ()), ()), t66.2)
 else
 bif (decide (t1.1.1 = (3:Int))) then
 (impl_cursor_take k t1.2.1 (2:Int)).bind fun t67 =>
 (impl_cursor_prefix k t67.2.1).bind fun t68 =>
 (impl_cursor_prefix k t68.2.1).bind fun t69 =>
 (impl_cursor_proto k t69.2.1).bind fun t70 =>
 (impl_cursor_take k t70.2.1 (2:Int)).bind fun t71 =>
 (impl_cursor_take k t71.2.1 (2:Int)).bind fun t72 =>
 (impl_cursor_take k t72.2.1 (2:Int)).bind fun t73 =>
 (impl_cursor_take k t73.2.1 (2:Int)).bind fun t74 =>
 (impl_cursor_take k t74.2.1 (1:Int)).bind fun t75 =>
 (impl_cursor_take k t75.2.1 (1:Int)).bind fun t76 =>
 (impl_cursor_take k t76.2.1 (1:Int)).bind fun t77 =>
 some (((t1.1.1, (0:Int), (0:Int), (t67.1.1, t68.1.1, t69.1.1, t70.1.1, t71.1.1, t72.1.1, t73.1.1, t74.1.1, t75.1.1, t76.1.1, t77.1), ((0:Int), (0:Int), (0:Int), (0:Int), false, ()), ([] : List D_Module), ()), ()), t77.2)
 else
 bif (decide (t1.1.1 = (5:Int))) then
 (impl_cursor_take k t1.2.1 (1:Int)).bind fun t78 =>
 (impl_cursor_take k t78.2.1 (4:Int)).bind fun t79 =>
 (impl_cursor_take k t79.2.1 (4:Int)).bind fun t80 =>
 (impl_cursor_take k t80.2.1 (4:Int)).bind fun t81 =>
 (impl_cursor_take k t81.2.1 (1:Int)).bind fun t82 =>
 some (((t1.1.1, (0:Int), (0:Int), zzR, (t78.1.1, t79.1.1, t80.1.1, t81.1.1, (decide (t82.1.1 = (1:Int))), ()), ([] : List D_Module), ()), ()), t82.2)
 else
 bif (decide (t1.1.1 = (7:Int))) then
 (impl_cursor_take k t1.2.1 (1:Int)).bind fun t83 =>
 (impl_cursor_take k t83.2.1 (1:Int)).bind fun t84 =>
 (iter (impl_cursor_cmd_s22 k) k (t84.2, (), zzC, (t1.1.1, t83.1.1, (0:Int), zzR, ((0:Int), (0:Int), (0:Int), (0:Int), false, ()), ([] : List D_Module), ()), t84.1.1, (0:Int), ())).bind fun o85 =>
 some (o85.2.2, (o85.1.1.1, ()), ())
 else
 some (((t1.1.1, (0:Int), (0:Int), zzR, ((0:Int), (0:Int), (0:Int), (0:Int), false, ()), ([] : List D_Module), ()), ()), t1.2)
def impl_CmdRead (k : Nat) (x0 : (List Int)) : Option ((D_Cmd × (Int × Unit)) × Unit) :=
 bif (decide ((600:Int) < (((List.length x0) : Nat) : Int))) then
 some ((zzC, (1:Int), ()), ())
 else
 bif (decide ((IntKind.wrap .i64 ((((List.length x0) : Nat) : Int) - (2:Int))) < (1:Int))) then
 some ((zzC, (2:Int), ()), ())
 else
 bif (((decide ((0:Int) ≤ (IntKind.wrap .i64 ((((List.length x0) : Nat) : Int) - (2:Int))))) && (decide ((IntKind.wrap .i64 ((((List.length x0) : Nat) : Int) - (2:Int))) ≤ (((List.length x0) : Nat) : Int)))) && (decide ((((List.length x0) : Nat) : Int) ≤ (((List.length x0) : Nat) : Int)))) then
 (impl_beOf k (List.take ((List.length x0) - (Int.toNat (IntKind.wrap .i64 ((((List.length x0) : Nat) : Int) - (2:Int))))) (List.drop (Int.toNat (IntKind.wrap .i64 ((((List.length x0) : Nat) : Int) - (2:Int)))) x0))).bind fun t1 =>
 bif ((decide ((0:Int) ≤ (IntKind.wrap .i64 ((((List.length x0) : Nat) : Int) - (2:Int))))) && (decide ((IntKind.wrap .i64 ((((List.length x0) : Nat) : Int) - (2:Int))) ≤ (((List.length x0) : Nat) : Int)))) then
 (impl_Checksum k (List.take (Int.toNat (IntKind.wrap .i64 ((((List.length x0) : Nat) : Int) - (2:Int)))) x0)).bind fun t2 =>
 bif (!(decide (t1.1.1 = t2.1.1))) then
 some ((zzC, (3:Int), ()), ())
 else
 bif ((decide ((0:Int) ≤ (IntKind.wrap .i64 ((((List.length x0) : Nat) : Int) - (2:Int))))) && (decide ((IntKind.wrap .i64 ((((List.length x0) : Nat) : Int) - (2:Int))) ≤ (((List.length x0) : Nat) : Int)))) then
 (impl_cursor_cmd k ((List.take (Int.toNat (IntKind.wrap .i64 ((((List.length x0) : Nat) : Int) - (2:Int)))) x0), ())).bind fun t3 =>
 (impl_CmdBytes k t3.1.1).bind fun t4 =>
 (slices_Equal_byte_byte k t4.1.1 x0).bind fun t5 =>
 bif (!t5.1.1) then
 some ((zzC, (4:Int), ()), ())
 else
 some ((t3.1.1, (0:Int), ()), ())
 else none
 else none
 else none
def impl_commandsOf_s5 (k : Nat) (rec : (Unit × ((List D_Cmd) × ((List D_Event) × (Int × (Int × Unit))))) → Option ((Unit × ((List D_Cmd) × Unit)))) (v : (Unit × ((List D_Cmd) × ((List D_Event) × (Int × (Int × Unit)))))) : Option ((Unit × ((List D_Cmd) × Unit))) :=
 bif (decide (v.2.2.2.2.1 < v.2.2.2.1)) then
 bif ((decide ((0:Int) ≤ v.2.2.2.2.1)) && (decide (v.2.2.2.2.1 < (((List.length v.2.2.1) : Nat) : Int)))) then
 bif (decide ((Int.toNat v.2.2.2.2.1) < (List.length v.2.2.1))) then
 (impl_CmdRead k (List.getD v.2.2.1 (Int.toNat v.2.2.2.2.1) z_Event).2.2.1).bind fun t3 =>
 bif (decide ((List.getD v.2.2.1 (Int.toNat v.2.2.2.2.1) z_Event).1 = (3:Int))) then
 bif (decide (t3.1.2.1 = (0:Int))) then
 bif (decide ((((List.length v.2.1) + (1:Nat)) * 256) ≤ (1099511627776:Nat))) then
 rec ((), (v.2.1 ++ ([t3.1.1] : List D_Cmd)), v.2.2.1, v.2.2.2.1, (IntKind.wrap .i64 (v.2.2.2.2.1 + (1:Int))), ())
 else none
 else
 rec ((), v.2.1, v.2.2.1, v.2.2.2.1, (IntKind.wrap .i64 (v.2.2.2.2.1 + (1:Int))), ())
 else
 rec ((), v.2.1, v.2.2.1, v.2.2.2.1, (IntKind.wrap .i64 (v.2.2.2.2.1 + (1:Int))), ())
 else none
 else none
 else
 some ((), v.2.1, ())
def impl_commandsOf (k : Nat) (x0 : (List D_Event)) (x1 : Int) : Option (((List D_Cmd) × (Bool × Unit)) × Unit) :=
 (impl_EventsOk k x0).bind fun t1 =>
 bif (!(!t1.1.1)) then
 (impl_within x1 (0:Int) (((List.length x0) : Nat) : Int)).bind fun t2 =>
 bif (!t2.1.1) then
 some ((([] : List D_Cmd), false, ()), ())
 else
 bif ((decide ((0:Int) ≤ x1)) && (decide (x1 ≤ (((List.length x0) : Nat) : Int)))) then
 (iter (impl_commandsOf_s5 k) k ((), ([] : List D_Cmd), (List.take (Int.toNat x1) x0), (((List.length (List.take (Int.toNat x1) x0)) : Nat) : Int), (0:Int), ())).bind fun o3 =>
 some ((o3.2.1, true, ()), ())
 else none
 else
 some ((([] : List D_Cmd), false, ()), ())
def backM (q : Int) : List D_Cmd → List D_Module
 | [] => []
 | c :: l => bif decide (c.1 = 7) && decide (c.2.1 = q) then c.2.2.2.2.2.1 else backM q l
def chainC (m : Option ((List D_Cmd × (Bool × Unit)) × Unit)) (q : Int) : Option ((List D_Module × Unit) × Unit) :=
 m.bind fun t => bif decide (t.1.1.length ≤ 1099511627776) then some ((bif t.1.2.1 && (decide (1 ≤ q) && decide (q ≤ 8)) then backM q t.1.1.reverse else [], ()), ()) else none
def impl_ChainAt (k : Nat) (x0 : (List D_Event)) (x1 x2 : Int) : Option ((List D_Module × Unit) × Unit) := chainC (impl_commandsOf k x0 x1) x2
def laws_eqAddr (x0 : D_Addr) (x1 : D_Addr) : Option ((Bool × Unit) × Unit) :=
 bif (!(decide (x0.1 = x1.1))) then
 some ((false, ()), ())
 else
 bif (!(decide (x0.2.1 = x1.2.1))) then
 some ((false, ()), ())
 else
 bif (!(decide (x0.2.2.1 = x1.2.2.1))) then
 some ((false, ()), ())
 else
 bif (!(decide (x0.2.2.2.1 = x1.2.2.2.1))) then
 some ((false, ()), ())
 else
 bif (!(decide (x0.2.2.2.2.1 = x1.2.2.2.2.1))) then
 some ((false, ()), ())
 else
 some ((true, ()), ())
def laws_eqPrefix (x0 : D_Prefix) (x1 : D_Prefix) : Option ((Bool × Unit) × Unit) :=
 (laws_eqAddr x0.1 x1.1).bind fun t1 =>
 bif (!t1.1.1) then
 some ((false, ()), ())
 else
 bif (!(decide (x0.2.1 = x1.2.1))) then
 some ((false, ()), ())
 else
 some ((true, ()), ())
def laws_eqModule (x0 : D_Module) (x1 : D_Module) : Option ((Bool × Unit) × Unit) :=
 bif (!(decide (x0.1 = x1.1))) then
 some ((false, ()), ())
 else
 (laws_eqPrefix x0.2.1 x1.2.1).bind fun t1 =>
 bif (!t1.1.1) then
 some ((false, ()), ())
 else
 (laws_eqPrefix x0.2.2.1 x1.2.2.1).bind fun t2 =>
 bif (!t2.1.1) then
 some ((false, ()), ())
 else
 bif (!(decide (x0.2.2.2.1 = x1.2.2.2.1))) then
 some ((false, ()), ())
 else
 bif (!(decide (x0.2.2.2.2.1 = x1.2.2.2.2.1))) then
 some ((false, ()), ())
 else
 bif (!(decide (x0.2.2.2.2.2.1 = x1.2.2.2.2.2.1))) then
 some ((false, ()), ())
 else
 bif (!(decide (x0.2.2.2.2.2.2.1 = x1.2.2.2.2.2.2.1))) then
 some ((false, ()), ())
 else
 some ((true, ()), ())
def laws_eqModuleS_s4 (rec : (Unit × ((List D_Module) × ((List D_Module) × (Int × Unit)))) → Option ((Unit × (Bool × Unit)) ⊕ (Unit × Unit))) (v : (Unit × ((List D_Module) × ((List D_Module) × (Int × Unit))))) : Option ((Unit × (Bool × Unit)) ⊕ (Unit × Unit)) :=
 bif (decide (v.2.2.2.1 < (((List.length v.2.1) : Nat) : Int))) then
 bif ((decide ((0:Int) ≤ v.2.2.2.1)) && (decide (v.2.2.2.1 < (((List.length v.2.1) : Nat) : Int)))) then
 bif (decide ((Int.toNat v.2.2.2.1) < (List.length v.2.1))) then
 bif ((decide ((0:Int) ≤ v.2.2.2.1)) && (decide (v.2.2.2.1 < (((List.length v.2.2.1) : Nat) : Int)))) then
 bif (decide ((Int.toNat v.2.2.2.1) < (List.length v.2.2.1))) then
 (laws_eqModule (List.getD v.2.1 (Int.toNat v.2.2.2.1) z_Module) (List.getD v.2.2.1 (Int.toNat v.2.2.2.1) z_Module)).bind fun t1 =>
 bif (!t1.1.1) then
 some (Sum.inl ((), false, ()))
 else
 rec ((), v.2.1, v.2.2.1, (IntKind.wrap .i64 (v.2.2.2.1 + (1:Int))), ())
 else none
 else none
 else none
 else none
 else
 some (Sum.inr ((), ()))
def laws_eqModuleS (k : Nat) (x0 : (List D_Module)) (x1 : (List D_Module)) : Option ((Bool × Unit) × Unit) :=
 bif (!(decide ((((List.length x0) : Nat) : Int) = (((List.length x1) : Nat) : Int)))) then
 some ((false, ()), ())
 else
 (iter (laws_eqModuleS_s4) k ((), x0, x1, (0:Int), ())).bind fun o1 =>
 Sum.elim (fun a2 =>
 some (a2.2, ()))
 (fun b3 =>
 some ((true, ()), ())) o1
def laws_eqByteS_s4 (rec : (Unit × ((List Int) × ((List Int) × (Int × Unit)))) → Option ((Unit × (Bool × Unit)) ⊕ (Unit × Unit))) (v : (Unit × ((List Int) × ((List Int) × (Int × Unit))))) : Option ((Unit × (Bool × Unit)) ⊕ (Unit × Unit)) :=
 bif (decide (v.2.2.2.1 < (((List.length v.2.1) : Nat) : Int))) then
 bif ((decide ((0:Int) ≤ v.2.2.2.1)) && (decide (v.2.2.2.1 < (((List.length v.2.1) : Nat) : Int)))) then
 bif (decide ((Int.toNat v.2.2.2.1) < (List.length v.2.1))) then
 bif ((decide ((0:Int) ≤ v.2.2.2.1)) && (decide (v.2.2.2.1 < (((List.length v.2.2.1) : Nat) : Int)))) then
 bif (decide ((Int.toNat v.2.2.2.1) < (List.length v.2.2.1))) then
 bif (!(decide ((List.getD v.2.1 (Int.toNat v.2.2.2.1) (0:Int)) = (List.getD v.2.2.1 (Int.toNat v.2.2.2.1) (0:Int))))) then
 some (Sum.inl ((), false, ()))
 else
 rec ((), v.2.1, v.2.2.1, (IntKind.wrap .i64 (v.2.2.2.1 + (1:Int))), ())
 else none
 else none
 else none
 else none
 else
 some (Sum.inr ((), ()))
def laws_eqByteS (k : Nat) (x0 : (List Int)) (x1 : (List Int)) : Option ((Bool × Unit) × Unit) :=
 bif (!(decide ((((List.length x0) : Nat) : Int) = (((List.length x1) : Nat) : Int)))) then
 some ((false, ()), ())
 else
 (iter (laws_eqByteS_s4) k ((), x0, x1, (0:Int), ())).bind fun o1 =>
 Sum.elim (fun a2 =>
 some (a2.2, ()))
 (fun b3 =>
 some ((true, ()), ())) o1
def laws_eqVec (x0 : D_Vec) (x1 : D_Vec) : Option ((Bool × Unit) × Unit) :=
 bif (!(decide (x0.1 = x1.1))) then
 some ((false, ()), ())
 else
 bif (!(decide (x0.2.1 = x1.2.1))) then
 some ((false, ()), ())
 else
 bif (!(decide (x0.2.2.1 = x1.2.2.1))) then
 some ((false, ()), ())
 else
 some ((true, ()), ())
def laws_eqEvent (k : Nat) (x0 : D_Event) (x1 : D_Event) : Option ((Bool × Unit) × Unit) :=
 bif (!(decide (x0.1 = x1.1))) then
 some ((false, ()), ())
 else
 bif (!(decide (x0.2.1 = x1.2.1))) then
 some ((false, ()), ())
 else
 (laws_eqByteS k x0.2.2.1 x1.2.2.1).bind fun t1 =>
 bif (!t1.1.1) then
 some ((false, ()), ())
 else
 (laws_eqVec x0.2.2.2.1 x1.2.2.2.1).bind fun t2 =>
 bif (!t2.1.1) then
 some ((false, ()), ())
 else
 some ((true, ()), ())
def laws_eqEventS_s4 (k : Nat) (rec : (Unit × ((List D_Event) × ((List D_Event) × (Int × Unit)))) → Option ((Unit × (Bool × Unit)) ⊕ (Unit × Unit))) (v : (Unit × ((List D_Event) × ((List D_Event) × (Int × Unit))))) : Option ((Unit × (Bool × Unit)) ⊕ (Unit × Unit)) :=
 bif (decide (v.2.2.2.1 < (((List.length v.2.1) : Nat) : Int))) then
 bif ((decide ((0:Int) ≤ v.2.2.2.1)) && (decide (v.2.2.2.1 < (((List.length v.2.1) : Nat) : Int)))) then
 bif (decide ((Int.toNat v.2.2.2.1) < (List.length v.2.1))) then
 bif ((decide ((0:Int) ≤ v.2.2.2.1)) && (decide (v.2.2.2.1 < (((List.length v.2.2.1) : Nat) : Int)))) then
 bif (decide ((Int.toNat v.2.2.2.1) < (List.length v.2.2.1))) then
 (laws_eqEvent k (List.getD v.2.1 (Int.toNat v.2.2.2.1) z_Event) (List.getD v.2.2.1 (Int.toNat v.2.2.2.1) z_Event)).bind fun t1 =>
 bif (!t1.1.1) then
 some (Sum.inl ((), false, ()))
 else
 rec ((), v.2.1, v.2.2.1, (IntKind.wrap .i64 (v.2.2.2.1 + (1:Int))), ())
 else none
 else none
 else none
 else none
 else
 some (Sum.inr ((), ()))
def laws_eqEventS (k : Nat) (x0 : (List D_Event)) (x1 : (List D_Event)) : Option ((Bool × Unit) × Unit) :=
 bif (!(decide ((((List.length x0) : Nat) : Int) = (((List.length x1) : Nat) : Int)))) then
 some ((false, ()), ())
 else
 (iter (laws_eqEventS_s4 k) k ((), x0, x1, (0:Int), ())).bind fun o1 =>
 Sum.elim (fun a2 =>
 some (a2.2, ()))
 (fun b3 =>
 some ((true, ()), ())) o1
def laws_markByteS_s2 (rec : (D_cursor × (Unit × (Int × (Int × Unit)))) → Option ((D_cursor × (Int × Unit)))) (v : (D_cursor × (Unit × (Int × (Int × Unit))))) : Option ((D_cursor × (Int × Unit))) :=
 bif (decide (v.2.2.2.1 < (((List.length v.1.1) : Nat) : Int))) then
 bif ((decide ((0:Int) ≤ v.2.2.2.1)) && (decide (v.2.2.2.1 < (((List.length v.1.1) : Nat) : Int)))) then
 bif (decide ((Int.toNat v.2.2.2.1) < (List.length v.1.1))) then
 let y1 : (List Int) := (List.set v.1.1 (Int.toNat v.2.2.2.1) (IntKind.wrap .u8 v.2.2.1))
 rec ((y1, ()), (), (IntKind.wrap .i64 (v.2.2.1 + (1:Int))), (IntKind.wrap .i64 (v.2.2.2.1 + (1:Int))), ())
 else none
 else none
 else
 some (v.1, v.2.2.1, ())
def laws_markByteS (k : Nat) (x0 : (List Int)) (x1 : Int) : Option ((Int × Unit) × D_cursor) :=
 (iter (laws_markByteS_s2) k ((x0, ()), (), x1, (0:Int), ())).bind fun o1 =>
 some (o1.2, o1.1)
def laws_markEventS_s2 (k : Nat) (rec : (((List D_Event) × Unit) × (Unit × (Int × (Int × Unit)))) → Option ((((List D_Event) × Unit) × (Int × Unit)))) (v : (((List D_Event) × Unit) × (Unit × (Int × (Int × Unit))))) : Option ((((List D_Event) × Unit) × (Int × Unit))) :=
 bif (decide (v.2.2.2.1 < (((List.length v.1.1) : Nat) : Int))) then
 bif ((decide ((0:Int) ≤ v.2.2.2.1)) && (decide (v.2.2.2.1 < (((List.length v.1.1) : Nat) : Int)))) then
 bif (decide ((Int.toNat v.2.2.2.1) < (List.length v.1.1))) then
 let y1 : (List D_Event) := (List.set v.1.1 (Int.toNat v.2.2.2.1) (v.2.2.1, (List.getD v.1.1 (Int.toNat v.2.2.2.1) z_Event).2))
 bif ((decide ((0:Int) ≤ v.2.2.2.1)) && (decide (v.2.2.2.1 < (((List.length y1) : Nat) : Int)))) then
 bif (decide ((Int.toNat v.2.2.2.1) < (List.length y1))) then
 let y2 : (List D_Event) := (List.set y1 (Int.toNat v.2.2.2.1) ((List.getD y1 (Int.toNat v.2.2.2.1) z_Event).1, (IntKind.wrap .i64 (v.2.2.1 + (1:Int))), (List.getD y1 (Int.toNat v.2.2.2.1) z_Event).2.2))
 bif ((decide ((0:Int) ≤ v.2.2.2.1)) && (decide (v.2.2.2.1 < (((List.length y2) : Nat) : Int)))) then
 bif (decide ((Int.toNat v.2.2.2.1) < (List.length y2))) then
 (laws_markByteS k (List.getD y2 (Int.toNat v.2.2.2.1) z_Event).2.2.1 (IntKind.wrap .i64 ((IntKind.wrap .i64 (v.2.2.1 + (1:Int))) + (1:Int)))).bind fun t3 =>
 let y4 : (List D_Event) := (List.set y2 (Int.toNat v.2.2.2.1) ((List.getD y2 (Int.toNat v.2.2.2.1) z_Event).1, (List.getD y2 (Int.toNat v.2.2.2.1) z_Event).2.1, t3.2.1, (List.getD y2 (Int.toNat v.2.2.2.1) z_Event).2.2.2))
 bif ((decide ((0:Int) ≤ v.2.2.2.1)) && (decide (v.2.2.2.1 < (((List.length y4) : Nat) : Int)))) then
 bif (decide ((Int.toNat v.2.2.2.1) < (List.length y4))) then
 let y5 : (List D_Event) := (List.set y4 (Int.toNat v.2.2.2.1) ((List.getD y4 (Int.toNat v.2.2.2.1) z_Event).1, (List.getD y4 (Int.toNat v.2.2.2.1) z_Event).2.1, (List.getD y4 (Int.toNat v.2.2.2.1) z_Event).2.2.1, (t3.1.1, (List.getD y4 (Int.toNat v.2.2.2.1) z_Event).2.2.2.1.2), ()))
 bif ((decide ((0:Int) ≤ v.2.2.2.1)) && (decide (v.2.2.2.1 < (((List.length y5) : Nat) : Int)))) then
 bif (decide ((Int.toNat v.2.2.2.1) < (List.length y5))) then
 let y6 : (List D_Event) := (List.set y5 (Int.toNat v.2.2.2.1) ((List.getD y5 (Int.toNat v.2.2.2.1) z_Event).1, (List.getD y5 (Int.toNat v.2.2.2.1) z_Event).2.1, (List.getD y5 (Int.toNat v.2.2.2.1) z_Event).2.2.1, ((List.getD y5 (Int.toNat v.2.2.2.1) z_Event).2.2.2.1.1, (IntKind.wrap .i64 (t3.1.1 + (1:Int))), (List.getD y5 (Int.toNat v.2.2.2.1) z_Event).2.2.2.1.2.2), ()))
 bif ((decide ((0:Int) ≤ v.2.2.2.1)) && (decide (v.2.2.2.1 < (((List.length y6) : Nat) : Int)))) then
 bif (decide ((Int.toNat v.2.2.2.1) < (List.length y6))) then
 let y7 : (List D_Event) := (List.set y6 (Int.toNat v.2.2.2.1) ((List.getD y6 (Int.toNat v.2.2.2.1) z_Event).1, (List.getD y6 (Int.toNat v.2.2.2.1) z_Event).2.1, (List.getD y6 (Int.toNat v.2.2.2.1) z_Event).2.2.1, ((List.getD y6 (Int.toNat v.2.2.2.1) z_Event).2.2.2.1.1, (List.getD y6 (Int.toNat v.2.2.2.1) z_Event).2.2.2.1.2.1, (IntKind.wrap .i64 ((IntKind.wrap .i64 (t3.1.1 + (1:Int))) + (1:Int))), ()), ()))
 rec ((y7, ()), (), (IntKind.wrap .i64 ((IntKind.wrap .i64 ((IntKind.wrap .i64 (t3.1.1 + (1:Int))) + (1:Int))) + (1:Int))), (IntKind.wrap .i64 (v.2.2.2.1 + (1:Int))), ())
 else none
 else none
 else none
 else none
 else none
 else none
 else none
 else none
 else none
 else none
 else none
 else none
 else
 some (v.1, v.2.2.1, ())
def laws_markEventS (k : Nat) (x0 : (List D_Event)) (x1 : Int) : Option ((Int × Unit) × ((List D_Event) × Unit)) :=
 (iter (laws_markEventS_s2 k) k ((x0, ()), (), x1, (0:Int), ())).bind fun o1 =>
 some (o1.2, o1.1)
def laws_markModuleS_s2 (rec : (((List D_Module) × Unit) × (Unit × (Int × (Int × Unit)))) → Option ((((List D_Module) × Unit) × (Int × Unit)))) (v : (((List D_Module) × Unit) × (Unit × (Int × (Int × Unit))))) : Option ((((List D_Module) × Unit) × (Int × Unit))) :=
 bif (decide (v.2.2.2.1 < (((List.length v.1.1) : Nat) : Int))) then
 bif ((decide ((0:Int) ≤ v.2.2.2.1)) && (decide (v.2.2.2.1 < (((List.length v.1.1) : Nat) : Int)))) then
 bif (decide ((Int.toNat v.2.2.2.1) < (List.length v.1.1))) then
 let y1 : (List D_Module) := (List.set v.1.1 (Int.toNat v.2.2.2.1) (v.2.2.1, (List.getD v.1.1 (Int.toNat v.2.2.2.1) z_Module).2))
 bif ((decide ((0:Int) ≤ v.2.2.2.1)) && (decide (v.2.2.2.1 < (((List.length y1) : Nat) : Int)))) then
 bif (decide ((Int.toNat v.2.2.2.1) < (List.length y1))) then
 let y2 : (List D_Module) := (List.set y1 (Int.toNat v.2.2.2.1) ((List.getD y1 (Int.toNat v.2.2.2.1) z_Module).1, (((IntKind.wrap .i64 (v.2.2.1 + (1:Int))), (List.getD y1 (Int.toNat v.2.2.2.1) z_Module).2.1.1.2), (List.getD y1 (Int.toNat v.2.2.2.1) z_Module).2.1.2), (List.getD y1 (Int.toNat v.2.2.2.1) z_Module).2.2))
 bif ((decide ((0:Int) ≤ v.2.2.2.1)) && (decide (v.2.2.2.1 < (((List.length y2) : Nat) : Int)))) then
 bif (decide ((Int.toNat v.2.2.2.1) < (List.length y2))) then
 let y3 : (List D_Module) := (List.set y2 (Int.toNat v.2.2.2.1) ((List.getD y2 (Int.toNat v.2.2.2.1) z_Module).1, (((List.getD y2 (Int.toNat v.2.2.2.1) z_Module).2.1.1.1, (IntKind.wrap .i64 ((IntKind.wrap .i64 (v.2.2.1 + (1:Int))) + (1:Int))), (List.getD y2 (Int.toNat v.2.2.2.1) z_Module).2.1.1.2.2), (List.getD y2 (Int.toNat v.2.2.2.1) z_Module).2.1.2), (List.getD y2 (Int.toNat v.2.2.2.1) z_Module).2.2))
 bif ((decide ((0:Int) ≤ v.2.2.2.1)) && (decide (v.2.2.2.1 < (((List.length y3) : Nat) : Int)))) then
 bif (decide ((Int.toNat v.2.2.2.1) < (List.length y3))) then
 let y4 : (List D_Module) := (List.set y3 (Int.toNat v.2.2.2.1) ((List.getD y3 (Int.toNat v.2.2.2.1) z_Module).1, (((List.getD y3 (Int.toNat v.2.2.2.1) z_Module).2.1.1.1, (List.getD y3 (Int.toNat v.2.2.2.1) z_Module).2.1.1.2.1, (IntKind.wrap .i64 ((IntKind.wrap .i64 ((IntKind.wrap .i64 (v.2.2.1 + (1:Int))) + (1:Int))) + (1:Int))), (List.getD y3 (Int.toNat v.2.2.2.1) z_Module).2.1.1.2.2.2), (List.getD y3 (Int.toNat v.2.2.2.1) z_Module).2.1.2), (List.getD y3 (Int.toNat v.2.2.2.1) z_Module).2.2))
 bif ((decide ((0:Int) ≤ v.2.2.2.1)) && (decide (v.2.2.2.1 < (((List.length y4) : Nat) : Int)))) then
 bif (decide ((Int.toNat v.2.2.2.1) < (List.length y4))) then
 let y5 : (List D_Module) := (List.set y4 (Int.toNat v.2.2.2.1) ((List.getD y4 (Int.toNat v.2.2.2.1) z_Module).1, (((List.getD y4 (Int.toNat v.2.2.2.1) z_Module).2.1.1.1, (List.getD y4 (Int.toNat v.2.2.2.1) z_Module).2.1.1.2.1, (List.getD y4 (Int.toNat v.2.2.2.1) z_Module).2.1.1.2.2.1, (IntKind.wrap .i64 ((IntKind.wrap .i64 ((IntKind.wrap .i64 ((IntKind.wrap .i64 (v.2.2.1 + (1:Int))) + (1:Int))) + (1:Int))) + (1:Int))), (List.getD y4 (Int.toNat v.2.2.2.1) z_Module).2.1.1.2.2.2.2), (List.getD y4 (Int.toNat v.2.2.2.1) z_Module).2.1.2), (List.getD y4 (Int.toNat v.2.2.2.1) z_Module).2.2))
 bif ((decide ((0:Int) ≤ v.2.2.2.1)) && (decide (v.2.2.2.1 < (((List.length y5) : Nat) : Int)))) then
 bif (decide ((Int.toNat v.2.2.2.1) < (List.length y5))) then
 let y6 : (List D_Module) := (List.set y5 (Int.toNat v.2.2.2.1) ((List.getD y5 (Int.toNat v.2.2.2.1) z_Module).1, (((List.getD y5 (Int.toNat v.2.2.2.1) z_Module).2.1.1.1, (List.getD y5 (Int.toNat v.2.2.2.1) z_Module).2.1.1.2.1, (List.getD y5 (Int.toNat v.2.2.2.1) z_Module).2.1.1.2.2.1, (List.getD y5 (Int.toNat v.2.2.2.1) z_Module).2.1.1.2.2.2.1, (IntKind.wrap .i64 ((IntKind.wrap .i64 ((IntKind.wrap .i64 ((IntKind.wrap .i64 ((IntKind.wrap .i64 (v.2.2.1 + (1:Int))) + (1:Int))) + (1:Int))) + (1:Int))) + (1:Int))), ()), (List.getD y5 (Int.toNat v.2.2.2.1) z_Module).2.1.2), (List.getD y5 (Int.toNat v.2.2.2.1) z_Module).2.2))
 bif ((decide ((0:Int) ≤ v.2.2.2.1)) && (decide (v.2.2.2.1 < (((List.length y6) : Nat) : Int)))) then
 bif (decide ((Int.toNat v.2.2.2.1) < (List.length y6))) then
 let y7 : (List D_Module) := (List.set y6 (Int.toNat v.2.2.2.1) ((List.getD y6 (Int.toNat v.2.2.2.1) z_Module).1, ((List.getD y6 (Int.toNat v.2.2.2.1) z_Module).2.1.1, (IntKind.wrap .i64 ((IntKind.wrap .i64 ((IntKind.wrap .i64 ((IntKind.wrap .i64 ((IntKind.wrap .i64 ((IntKind.wrap .i64 (v.2.2.1 + (1:Int))) + (1:Int))) + (1:Int))) + (1:Int))) + (1:Int))) + (1:Int))), ()), (List.getD y6 (Int.toNat v.2.2.2.1) z_Module).2.2))
 bif ((decide ((0:Int) ≤ v.2.2.2.1)) && (decide (v.2.2.2.1 < (((List.length y7) : Nat) : Int)))) then
 bif (decide ((Int.toNat v.2.2.2.1) < (List.length y7))) then
 let y8 : (List D_Module) := (List.set y7 (Int.toNat v.2.2.2.1) ((List.getD y7 (Int.toNat v.2.2.2.1) z_Module).1, (List.getD y7 (Int.toNat v.2.2.2.1) z_Module).2.1, (((IntKind.wrap .i64 ((IntKind.wrap .i64 ((IntKind.wrap .i64 ((IntKind.wrap .i64 ((IntKind.wrap .i64 ((IntKind.wrap .i64 ((IntKind.wrap .i64 (v.2.2.1 + (1:Int))) + (1:Int))) + (1:Int))) + (1:Int))) + (1:Int))) + (1:Int))) + (1:Int))), (List.getD y7 (Int.toNat v.2.2.2.1) z_Module).2.2.1.1.2), (List.getD y7 (Int.toNat v.2.2.2.1) z_Module).2.2.1.2), (List.getD y7 (Int.toNat v.2.2.2.1) z_Module).2.2.2))
 bif ((decide ((0:Int) ≤ v.2.2.2.1)) && (decide (v.2.2.2.1 < (((List.length y8) : Nat) : Int)))) then
 bif (decide ((Int.toNat v.2.2.2.1) < (List.length y8))) then
 let y9 : (List D_Module) := (List.set y8 (Int.toNat v.2.2.2.1) ((List.getD y8 (Int.toNat v.2.2.2.1) z_Module).1, (List.getD y8 (Int.toNat v.2.2.2.1) z_Module).2.1, (((List.getD y8 (Int.toNat v.2.2.2.1) z_Module).2.2.1.1.1, (IntKind.wrap .i64 ((IntKind.wrap .i64 ((IntKind.wrap .i64 ((IntKind.wrap .i64 ((IntKind.wrap .i64 ((IntKind.wrap .i64 ((IntKind.wrap .i64 ((IntKind.wrap .i64 (v.2.2.1 + (1:Int))) + (1:Int))) + (1:Int))) + (1:Int))) + (1:Int))) + (1:Int))) + (1:Int))) + (1:Int))), (List.getD y8 (Int.toNat v.2.2.2.1) z_Module).2.2.1.1.2.2), (List.getD y8 (Int.toNat v.2.2.2.1) z_Module).2.2.1.2), (List.getD y8 (Int.toNat v.2.2.2.1) z_Module).2.2.2))
 bif ((decide ((0:Int) ≤ v.2.2.2.1)) && (decide (v.2.2.2.1 < (((List.length y9) : Nat) : Int)))) then
 bif (decide ((Int.toNat v.2.2.2.1) < (List.length y9))) then
 let y10 : (List D_Module) := (List.set y9 (Int.toNat v.2.2.2.1) ((List.getD y9 (Int.toNat v.2.2.2.1) z_Module).1, (List.getD y9 (Int.toNat v.2.2.2.1) z_Module).2.1, (((List.getD y9 (Int.toNat v.2.2.2.1) z_Module).2.2.1.1.1, (List.getD y9 (Int.toNat v.2.2.2.1) z_Module).2.2.1.1.2.1, (IntKind.wrap .i64 ((IntKind.wrap .i64 ((IntKind.wrap .i64 ((IntKind.wrap .i64 ((IntKind.wrap .i64 ((IntKind.wrap .i64 ((IntKind.wrap .i64 ((IntKind.wrap .i64 ((IntKind.wrap .i64 (v.2.2.1 + (1:Int))) + (1:Int))) + (1:Int))) + (1:Int))) + (1:Int))) + (1:Int))) + (1:Int))) + (1:Int))) + (1:Int))), (List.getD y9 (Int.toNat v.2.2.2.1) z_Module).2.2.1.1.2.2.2), (List.getD y9 (Int.toNat v.2.2.2.1) z_Module).2.2.1.2), (List.getD y9 (Int.toNat v.2.2.2.1) z_Module).2.2.2))
 bif ((decide ((0:Int) ≤ v.2.2.2.1)) && (decide (v.2.2.2.1 < (((List.length y10) : Nat) : Int)))) then
 bif (decide ((Int.toNat v.2.2.2.1) < (List.length y10))) then
 let y11 : (List D_Module) := (List.set y10 (Int.toNat v.2.2.2.1) ((List.getD y10 (Int.toNat v.2.2.2.1) z_Module).1, (List.getD y10 (Int.toNat v.2.2.2.1) z_Module).2.1, (((List.getD y10 (Int.toNat v.2.2.2.1) z_Module).2.2.1.1.1, (List.getD y10 (Int.toNat v.2.2.2.1) z_Module).2.2.1.1.2.1, (List.getD y10 (Int.toNat v.2.2.2.1) z_Module).2.2.1.1.2.2.1, (IntKind.wrap .i64 ((IntKind.wrap .i64 ((IntKind.wrap .i64 ((IntKind.wrap .i64 ((IntKind.wrap .i64 ((IntKind.wrap .i64 ((IntKind.wrap .i64 ((IntKind.wrap .i64 ((IntKind.wrap .i64 ((IntKind.wrap .i64 (v.2.2.1 + (1:Int))) + (1:Int))) + (1:Int))) + (1:Int))) + (1:Int))) + (1:Int))) + (1:Int))) + (1:Int))) + (1:Int))) + (1:Int))), (List.getD y10 (Int.toNat v.2.2.2.1) z_Module).2.2.1.1.2.2.2.2), (List.getD y10 (Int.toNat v.2.2.2.1) z_Module).2.2.1.2), (List.getD y10 (Int.toNat v.2.2.2.1) z_Module).2.2.2))
 bif ((decide ((0:Int) ≤ v.2.2.2.1)) && (decide (v.2.2.2.1 < (((List.length y11) : Nat) : Int)))) then
 bif (decide ((Int.toNat v.2.2.2.1) < (List.length y11))) then
 let y12 : (List D_Module) := (List.set y11 (Int.toNat v.2.2.2.1) ((List.getD y11 (Int.toNat v.2.2.2.1) z_Module).1, (List.getD y11 (Int.toNat v.2.2.2.1) z_Module).2.1, (((List.getD y11 (Int.toNat v.2.2.2.1) z_Module).2.2.1.1.1, (List.getD y11 (Int.toNat v.2.2.2.1) z_Module).2.2.1.1.2.1, (List.getD y11 (Int.toNat v.2.2.2.1) z_Module).2.2.1.1.2.2.1, (List.getD y11 (Int.toNat v.2.2.2.1) z_Module).2.2.1.1.2.2.2.1, (IntKind.wrap .i64 ((IntKind.wrap .i64 ((IntKind.wrap .i64 ((IntKind.wrap .i64 ((IntKind.wrap .i64 ((IntKind.wrap .i64 ((IntKind.wrap .i64 ((IntKind.wrap .i64 ((IntKind.wrap .i64 ((IntKind.wrap .i64 ((IntKind.wrap .i64 (v.2.2.1 + (1:Int))) + (1:Int))) + (1:Int))) + (1:Int))) + (1:Int))) + (1:Int))) + (1:Int))) + (1:Int))) + (1:Int))) + (1:Int))) + (1:Int))), ()), (List.getD y11 (Int.toNat v.2.2.2.1) z_Module).2.2.1.2), (List.getD y11 (Int.toNat v.2.2.2.1) z_Module).2.2.2))
 bif ((decide ((0:Int) ≤ v.2.2.2.1)) && (decide (v.2.2.2.1 < (((List.length y12) : Nat) : Int)))) then
 bif (decide ((Int.toNat v.2.2.2.1) < (List.length y12))) then
 let y13 : (List D_Module) := (List.set y12 (Int.toNat v.2.2.2.1) ((List.getD y12 (Int.toNat v.2.2.2.1) z_Module).1, (List.getD y12 (Int.toNat v.2.2.2.1) z_Module).2.1, ((List.getD y12 (Int.toNat v.2.2.2.1) z_Module).2.2.1.1, (IntKind.wrap .i64 ((IntKind.wrap .i64 ((IntKind.wrap .i64 ((IntKind.wrap .i64 ((IntKind.wrap .i64 ((IntKind.wrap .i64 ((IntKind.wrap .i64 ((IntKind.wrap .i64 ((IntKind.wrap .i64 ((IntKind.wrap .i64 ((IntKind.wrap .i64 ((IntKind.wrap .i64 (v.2.2.1 + (1:Int))) + (1:Int))) + (1:Int))) + (1:Int))) + (1:Int))) + (1:Int))) + (1:Int))) + (1:Int))) + (1:Int))) + (1:Int))) + (1:Int))) + (1:Int))), ()), (List.getD y12 (Int.toNat v.2.2.2.1) z_Module).2.2.2))
 bif ((decide ((0:Int) ≤ v.2.2.2.1)) && (decide (v.2.2.2.1 < (((List.length y13) : Nat) : Int)))) then
 bif (decide ((Int.toNat v.2.2.2.1) < (List.length y13))) then
 let y14 : (List D_Module) := (List.set y13 (Int.toNat v.2.2.2.1) ((List.getD y13 (Int.toNat v.2.2.2.1) z_Module).1, (List.getD y13 (Int.toNat v.2.2.2.1) z_Module).2.1, (List.getD y13 (Int.toNat v.2.2.2.1) z_Module).2.2.1, (IntKind.wrap .i64 ((IntKind.wrap .i64 ((IntKind.wrap .i64 ((IntKind.wrap .i64 ((IntKind.wrap .i64 ((IntKind.wrap .i64 ((IntKind.wrap .i64 ((IntKind.wrap .i64 ((IntKind.wrap .i64 ((IntKind.wrap .i64 ((IntKind.wrap .i64 ((IntKind.wrap .i64 ((IntKind.wrap .i64 (v.2.2.1 + (1:Int))) + (1:Int))) + (1:Int))) + (1:Int))) + (1:Int))) + (1:Int))) + (1:Int))) + (1:Int))) + (1:Int))) + (1:Int))) + (1:Int))) + (1:Int))) + (1:Int))), (List.getD y13 (Int.toNat v.2.2.2.1) z_Module).2.2.2.2))
 bif ((decide ((0:Int) ≤ v.2.2.2.1)) && (decide (v.2.2.2.1 < (((List.length y14) : Nat) : Int)))) then
 bif (decide ((Int.toNat v.2.2.2.1) < (List.length y14))) then
 let y15 : (List D_Module) := (List.set y14 (Int.toNat v.2.2.2.1) ((List.getD y14 (Int.toNat v.2.2.2.1) z_Module).1, (List.getD y14 (Int.toNat v.2.2.2.1) z_Module).2.1, (List.getD y14 (Int.toNat v.2.2.2.1) z_Module).2.2.1, (List.getD y14 (Int.toNat v.2.2.2.1) z_Module).2.2.2.1, (IntKind.wrap .i64 ((IntKind.wrap .i64 ((IntKind.wrap .i64 ((IntKind.wrap .i64 ((IntKind.wrap .i64 ((IntKind.wrap .i64 ((IntKind.wrap .i64 ((IntKind.wrap .i64 ((IntKind.wrap .i64 ((IntKind.wrap .i64 ((IntKind.wrap .i64 ((IntKind.wrap .i64 ((IntKind.wrap .i64 ((IntKind.wrap .i64 (v.2.2.1 + (1:Int))) + (1:Int))) + (1:Int))) + (1:Int))) + (1:Int))) + (1:Int))) + (1:Int))) + (1:Int))) + (1:Int))) + (1:Int))) + (1:Int))) + (1:Int))) + (1:Int))) + (1:Int))), (List.getD y14 (Int.toNat v.2.2.2.1) z_Module).2.2.2.2.2))
 bif ((decide ((0:Int) ≤ v.2.2.2.1)) && (decide (v.2.2.2.1 < (((List.length y15) : Nat) : Int)))) then
 bif (decide ((Int.toNat v.2.2.2.1) < (List.length y15))) then
 let y16 : (List D_Module) := (List.set y15 (Int.toNat v.2.2.2.1) ((List.getD y15 (Int.toNat v.2.2.2.1) z_Module).1, (List.getD y15 (Int.toNat v.2.2.2.1) z_Module).2.1, (List.getD y15 (Int.toNat v.2.2.2.1) z_Module).2.2.1, (List.getD y15 (Int.toNat v.2.2.2.1) z_Module).2.2.2.1, (List.getD y15 (Int.toNat v.2.2.2.1) z_Module).2.2.2.2.1, (IntKind.wrap .i64 ((IntKind.wrap .i64 ((IntKind.wrap .i64 ((IntKind.wrap .i64 ((IntKind.wrap .i64 ((IntKind.wrap .i64 ((IntKind.wrap .i64 ((IntKind.wrap .i64 ((IntKind.wrap .i64 ((IntKind.wrap .i64 ((IntKind.wrap .i64 ((IntKind.wrap .i64 ((IntKind.wrap .i64 ((IntKind.wrap .i64 ((IntKind.wrap .i64 (v.2.2.1 + (1:Int))) + (1:Int))) + (1:Int))) + (1:Int))) + (1:Int))) + (1:Int))) + (1:Int))) + (1:Int))) + (1:Int))) + (1:Int))) + (1:Int))) + (1:Int))) + (1:Int))) + (1:Int))) + (1:Int))), (List.getD y15 (Int.toNat v.2.2.2.1) z_Module).2.2.2.2.2.2))
 bif ((decide ((0:Int) ≤ v.2.2.2.1)) && (decide (v.2.2.2.1 < (((List.length y16) : Nat) : Int)))) then
 bif (decide ((Int.toNat v.2.2.2.1) < (List.length y16))) then
 let y17 : (List D_Module) := (List.set y16 (Int.toNat v.2.2.2.1) ((List.getD y16 (Int.toNat v.2.2.2.1) z_Module).1, (List.getD y16 (Int.toNat v.2.2.2.1) z_Module).2.1, (List.getD y16 (Int.toNat v.2.2.2.1) z_Module).2.2.1, (List.getD y16 (Int.toNat v.2.2.2.1) z_Module).2.2.2.1, (List.getD y16 (Int.toNat v.2.2.2.1) z_Module).2.2.2.2.1, (List.getD y16 (Int.toNat v.2.2.2.1) z_Module).2.2.2.2.2.1, (IntKind.wrap .i64 ((IntKind.wrap .i64 ((IntKind.wrap .i64 ((IntKind.wrap .i64 ((IntKind.wrap .i64 ((IntKind.wrap .i64 ((IntKind.wrap .i64 ((IntKind.wrap .i64 ((IntKind.wrap .i64 ((IntKind.wrap .i64 ((IntKind.wrap .i64 ((IntKind.wrap .i64 ((IntKind.wrap .i64 ((IntKind.wrap .i64 ((IntKind.wrap .i64 ((IntKind.wrap .i64 (v.2.2.1 + (1:Int))) + (1:Int))) + (1:Int))) + (1:Int))) + (1:Int))) + (1:Int))) + (1:Int))) + (1:Int))) + (1:Int))) + (1:Int))) + (1:Int))) + (1:Int))) + (1:Int))) + (1:Int))) + (1:Int))) + (1:Int))), ()))
 rec ((y17, ()), (), (IntKind.wrap .i64 ((IntKind.wrap .i64 ((IntKind.wrap .i64 ((IntKind.wrap .i64 ((IntKind.wrap .i64 ((IntKind.wrap .i64 ((IntKind.wrap .i64 ((IntKind.wrap .i64 ((IntKind.wrap .i64 ((IntKind.wrap .i64 ((IntKind.wrap .i64 ((IntKind.wrap .i64 ((IntKind.wrap .i64 ((IntKind.wrap .i64 ((IntKind.wrap .i64 ((IntKind.wrap .i64 ((IntKind.wrap .i64 (v.2.2.1 + (1:Int))) + (1:Int))) + (1:Int))) + (1:Int))) + (1:Int))) + (1:Int))) + (1:Int))) + (1:Int))) + (1:Int))) + (1:Int))) + (1:Int))) + (1:Int))) + (1:Int))) + (1:Int))) + (1:Int))) + (1:Int))) + (1:Int))), (IntKind.wrap .i64 (v.2.2.2.1 + (1:Int))), ())
 else none
 else none
 else none
 else none
 else none
 else none
 else none
 else none
 else none
 else none
 else none
 else none
 else none
 else none
 else none
 else none
 else none
 else none
 else none
 else none
 else none
 else none
 else none
 else none
 else none
 else none
 else none
 else none
 else none
 else none
 else none
 else none
 else none
 else none
 else
 some (v.1, v.2.2.1, ())
def laws_markModuleS (k : Nat) (x0 : (List D_Module)) (x1 : Int) : Option ((Int × Unit) × ((List D_Module) × Unit)) :=
 (iter (laws_markModuleS_s2) k ((x0, ()), (), x1, (0:Int), ())).bind fun o1 =>
 some (o1.2, o1.1)
def laws_heldModuleS_s2 (rec : (Unit × ((List D_Module) × (Int × (Int × Unit)))) → Option ((Unit × (Int × Unit)) ⊕ (Unit × (Int × Unit)))) (v : (Unit × ((List D_Module) × (Int × (Int × Unit))))) : Option ((Unit × (Int × Unit)) ⊕ (Unit × (Int × Unit))) :=
 bif (decide (v.2.2.2.1 < (((List.length v.2.1) : Nat) : Int))) then
 bif ((decide ((0:Int) ≤ v.2.2.2.1)) && (decide (v.2.2.2.1 < (((List.length v.2.1) : Nat) : Int)))) then
 bif (decide ((Int.toNat v.2.2.2.1) < (List.length v.2.1))) then
 bif (!(decide ((List.getD v.2.1 (Int.toNat v.2.2.2.1) z_Module).1 = v.2.2.1))) then
 some (Sum.inl ((), (-1 : Int), ()))
 else
 bif ((decide ((0:Int) ≤ v.2.2.2.1)) && (decide (v.2.2.2.1 < (((List.length v.2.1) : Nat) : Int)))) then
 bif (decide ((Int.toNat v.2.2.2.1) < (List.length v.2.1))) then
 bif (!(decide ((List.getD v.2.1 (Int.toNat v.2.2.2.1) z_Module).2.1.1.1 = (IntKind.wrap .i64 (v.2.2.1 + (1:Int)))))) then
 some (Sum.inl ((), (-1 : Int), ()))
 else
 bif ((decide ((0:Int) ≤ v.2.2.2.1)) && (decide (v.2.2.2.1 < (((List.length v.2.1) : Nat) : Int)))) then
 bif (decide ((Int.toNat v.2.2.2.1) < (List.length v.2.1))) then
 bif (!(decide ((List.getD v.2.1 (Int.toNat v.2.2.2.1) z_Module).2.1.1.2.1 = (IntKind.wrap .i64 ((IntKind.wrap .i64 (v.2.2.1 + (1:Int))) + (1:Int)))))) then
 some (Sum.inl ((), (-1 : Int), ()))
 else
 bif ((decide ((0:Int) ≤ v.2.2.2.1)) && (decide (v.2.2.2.1 < (((List.length v.2.1) : Nat) : Int)))) then
 bif (decide ((Int.toNat v.2.2.2.1) < (List.length v.2.1))) then
 bif (!(decide ((List.getD v.2.1 (Int.toNat v.2.2.2.1) z_Module).2.1.1.2.2.1 = (IntKind.wrap .i64 ((IntKind.wrap .i64 ((IntKind.wrap .i64 (v.2.2.1 + (1:Int))) + (1:Int))) + (1:Int)))))) then
 some (Sum.inl ((), (-1 : Int), ()))
 else
 bif ((decide ((0:Int) ≤ v.2.2.2.1)) && (decide (v.2.2.2.1 < (((List.length v.2.1) : Nat) : Int)))) then
 bif (decide ((Int.toNat v.2.2.2.1) < (List.length v.2.1))) then
 bif (!(decide ((List.getD v.2.1 (Int.toNat v.2.2.2.1) z_Module).2.1.1.2.2.2.1 = (IntKind.wrap .i64 ((IntKind.wrap .i64 ((IntKind.wrap .i64 ((IntKind.wrap .i64 (v.2.2.1 + (1:Int))) + (1:Int))) + (1:Int))) + (1:Int)))))) then
 some (Sum.inl ((), (-1 : Int), ()))
 else
 bif ((decide ((0:Int) ≤ v.2.2.2.1)) && (decide (v.2.2.2.1 < (((List.length v.2.1) : Nat) : Int)))) then
 bif (decide ((Int.toNat v.2.2.2.1) < (List.length v.2.1))) then
 bif (!(decide ((List.getD v.2.1 (Int.toNat v.2.2.2.1) z_Module).2.1.1.2.2.2.2.1 = (IntKind.wrap .i64 ((IntKind.wrap .i64 ((IntKind.wrap .i64 ((IntKind.wrap .i64 ((IntKind.wrap .i64 (v.2.2.1 + (1:Int))) + (1:Int))) + (1:Int))) + (1:Int))) + (1:Int)))))) then
 some (Sum.inl ((), (-1 : Int), ()))
 else
 bif ((decide ((0:Int) ≤ v.2.2.2.1)) && (decide (v.2.2.2.1 < (((List.length v.2.1) : Nat) : Int)))) then
 bif (decide ((Int.toNat v.2.2.2.1) < (List.length v.2.1))) then
 bif (!(decide ((List.getD v.2.1 (Int.toNat v.2.2.2.1) z_Module).2.1.2.1 = (IntKind.wrap .i64 ((IntKind.wrap .i64 ((IntKind.wrap .i64 ((IntKind.wrap .i64 ((IntKind.wrap .i64 ((IntKind.wrap .i64 (v.2.2.1 + (1:Int))) + (1:Int))) + (1:Int))) + (1:Int))) + (1:Int))) + (1:Int)))))) then
 some (Sum.inl ((), (-1 : Int), ()))
 else
 bif ((decide ((0:Int) ≤ v.2.2.2.1)) && (decide (v.2.2.2.1 < (((List.length v.2.1) : Nat) : Int)))) then
 bif (decide ((Int.toNat v.2.2.2.1) < (List.length v.2.1))) then
 bif (!(decide ((List.getD v.2.1 (Int.toNat v.2.2.2.1) z_Module).2.2.1.1.1 = (IntKind.wrap .i64 ((IntKind.wrap .i64 ((IntKind.wrap .i64 ((IntKind.wrap .i64 ((IntKind.wrap .i64 ((IntKind.wrap .i64 ((IntKind.wrap .i64 (v.2.2.1 + (1:Int))) + (1:Int))) + (1:Int))) + (1:Int))) + (1:Int))) + (1:Int))) + (1:Int)))))) then
 some (Sum.inl ((), (-1 : Int), ()))
 else
 bif ((decide ((0:Int) ≤ v.2.2.2.1)) && (decide (v.2.2.2.1 < (((List.length v.2.1) : Nat) : Int)))) then
 bif (decide ((Int.toNat v.2.2.2.1) < (List.length v.2.1))) then
 bif (!(decide ((List.getD v.2.1 (Int.toNat v.2.2.2.1) z_Module).2.2.1.1.2.1 = (IntKind.wrap .i64 ((IntKind.wrap .i64 ((IntKind.wrap .i64 ((IntKind.wrap .i64 ((IntKind.wrap .i64 ((IntKind.wrap .i64 ((IntKind.wrap .i64 ((IntKind.wrap .i64 (v.2.2.1 + (1:Int))) + (1:Int))) + (1:Int))) + (1:Int))) + (1:Int))) + (1:Int))) + (1:Int))) + (1:Int)))))) then
 some (Sum.inl ((), (-1 : Int), ()))
 else
 bif ((decide ((0:Int) ≤ v.2.2.2.1)) && (decide (v.2.2.2.1 < (((List.length v.2.1) : Nat) : Int)))) then
 bif (decide ((Int.toNat v.2.2.2.1) < (List.length v.2.1))) then
 bif (!(decide ((List.getD v.2.1 (Int.toNat v.2.2.2.1) z_Module).2.2.1.1.2.2.1 = (IntKind.wrap .i64 ((IntKind.wrap .i64 ((IntKind.wrap .i64 ((IntKind.wrap .i64 ((IntKind.wrap .i64 ((IntKind.wrap .i64 ((IntKind.wrap .i64 ((IntKind.wrap .i64 ((IntKind.wrap .i64 (v.2.2.1 + (1:Int))) + (1:Int))) + (1:Int))) + (1:Int))) + (1:Int))) + (1:Int))) + (1:Int))) + (1:Int))) + (1:Int)))))) then
 some (Sum.inl ((), (-1 : Int), ()))
 else
 bif ((decide ((0:Int) ≤ v.2.2.2.1)) && (decide (v.2.2.2.1 < (((List.length v.2.1) : Nat) : Int)))) then
 bif (decide ((Int.toNat v.2.2.2.1) < (List.length v.2.1))) then
 bif (!(decide ((List.getD v.2.1 (Int.toNat v.2.2.2.1) z_Module).2.2.1.1.2.2.2.1 = (IntKind.wrap .i64 ((IntKind.wrap .i64 ((IntKind.wrap .i64 ((IntKind.wrap .i64 ((IntKind.wrap .i64 ((IntKind.wrap .i64 ((IntKind.wrap .i64 ((IntKind.wrap .i64 ((IntKind.wrap .i64 ((IntKind.wrap .i64 (v.2.2.1 + (1:Int))) + (1:Int))) + (1:Int))) + (1:Int))) + (1:Int))) + (1:Int))) + (1:Int))) + (1:Int))) + (1:Int))) + (1:Int)))))) then
 some (Sum.inl ((), (-1 : Int), ()))
 else
 bif ((decide ((0:Int) ≤ v.2.2.2.1)) && (decide (v.2.2.2.1 < (((List.length v.2.1) : Nat) : Int)))) then
 bif (decide ((Int.toNat v.2.2.2.1) < (List.length v.2.1))) then
 bif (!(decide ((List.getD v.2.1 (Int.toNat v.2.2.2.1) z_Module).2.2.1.1.2.2.2.2.1 = (IntKind.wrap .i64 ((IntKind.wrap .i64 ((IntKind.wrap .i64 ((IntKind.wrap .i64 ((IntKind.wrap .i64 ((IntKind.wrap .i64 ((IntKind.wrap .i64 ((IntKind.wrap .i64 ((IntKind.wrap .i64 ((IntKind.wrap .i64 ((IntKind.wrap .i64 (v.2.2.1 + (1:Int))) + (1:Int))) + (1:Int))) + (1:Int))) + (1:Int))) + (1:Int))) + (1:Int))) + (1:Int))) + (1:Int))) + (1:Int))) + (1:Int)))))) then
 some (Sum.inl ((), (-1 : Int), ()))
 else
 bif ((decide ((0:Int) ≤ v.2.2.2.1)) && (decide (v.2.2.2.1 < (((List.length v.2.1) : Nat) : Int)))) then
 bif (decide ((Int.toNat v.2.2.2.1) < (List.length v.2.1))) then
 bif (!(decide ((List.getD v.2.1 (Int.toNat v.2.2.2.1) z_Module).2.2.1.2.1 = (IntKind.wrap .i64 ((IntKind.wrap .i64 ((IntKind.wrap .i64 ((IntKind.wrap .i64 ((IntKind.wrap .i64 ((IntKind.wrap .i64 ((IntKind.wrap .i64 ((IntKind.wrap .i64 ((IntKind.wrap .i64 ((IntKind.wrap .i64 ((IntKind.wrap .i64 ((IntKind.wrap .i64 (v.2.2.1 + (1:Int))) + (1:Int))) + (1:Int))) + (1:Int))) + (1:Int))) + (1:Int))) + (1:Int))) + (1:Int))) + (1:Int))) + (1:Int))) + (1:Int))) + (1:Int)))))) then
 some (Sum.inl ((), (-1 : Int), ()))
 else
 bif ((decide ((0:Int) ≤ v.2.2.2.1)) && (decide (v.2.2.2.1 < (((List.length v.2.1) : Nat) : Int)))) then
 bif (decide ((Int.toNat v.2.2.2.1) < (List.length v.2.1))) then
 bif (!(decide ((List.getD v.2.1 (Int.toNat v.2.2.2.1) z_Module).2.2.2.1 = (IntKind.wrap .i64 ((IntKind.wrap .i64 ((IntKind.wrap .i64 ((IntKind.wrap .i64 ((IntKind.wrap .i64 ((IntKind.wrap .i64 ((IntKind.wrap .i64 ((IntKind.wrap .i64 ((IntKind.wrap .i64 ((IntKind.wrap .i64 ((IntKind.wrap .i64 ((IntKind.wrap .i64 ((IntKind.wrap .i64 (v.2.2.1 + (1:Int))) + (1:Int))) + (1:Int))) + (1:Int))) + (1:Int))) + (1:Int))) + (1:Int))) + (1:Int))) + (1:Int))) + (1:Int))) + (1:Int))) + (1:Int))) + (1:Int)))))) then
 some (Sum.inl ((), (-1 : Int), ()))
 else
 bif ((decide ((0:Int) ≤ v.2.2.2.1)) && (decide (v.2.2.2.1 < (((List.length v.2.1) : Nat) : Int)))) then
 bif (decide ((Int.toNat v.2.2.2.1) < (List.length v.2.1))) then
 bif (!(decide ((List.getD v.2.1 (Int.toNat v.2.2.2.1) z_Module).2.2.2.2.1 = (IntKind.wrap .i64 ((IntKind.wrap .i64 ((IntKind.wrap .i64 ((IntKind.wrap .i64 ((IntKind.wrap .i64 ((IntKind.wrap .i64 ((IntKind.wrap .i64 ((IntKind.wrap .i64 ((IntKind.wrap .i64 ((IntKind.wrap .i64 ((IntKind.wrap .i64 ((IntKind.wrap .i64 ((IntKind.wrap .i64 ((IntKind.wrap .i64 (v.2.2.1 + (1:Int))) + (1:Int))) + (1:Int))) + (1:Int))) + (1:Int))) + (1:Int))) + (1:Int))) + (1:Int))) + (1:Int))) + (1:Int))) + (1:Int))) + (1:Int))) + (1:Int))) + (1:Int)))))) then
 some (Sum.inl ((), (-1 : Int), ()))
 else
 bif ((decide ((0:Int) ≤ v.2.2.2.1)) && (decide (v.2.2.2.1 < (((List.length v.2.1) : Nat) : Int)))) then
 bif (decide ((Int.toNat v.2.2.2.1) < (List.length v.2.1))) then
 bif (!(decide ((List.getD v.2.1 (Int.toNat v.2.2.2.1) z_Module).2.2.2.2.2.1 = (IntKind.wrap .i64 ((IntKind.wrap .i64 ((IntKind.wrap .i64 ((IntKind.wrap .i64 ((IntKind.wrap .i64 ((IntKind.wrap .i64 ((IntKind.wrap .i64 ((IntKind.wrap .i64 ((IntKind.wrap .i64 ((IntKind.wrap .i64 ((IntKind.wrap .i64 ((IntKind.wrap .i64 ((IntKind.wrap .i64 ((IntKind.wrap .i64 ((IntKind.wrap .i64 (v.2.2.1 + (1:Int))) + (1:Int))) + (1:Int))) + (1:Int))) + (1:Int))) + (1:Int))) + (1:Int))) + (1:Int))) + (1:Int))) + (1:Int))) + (1:Int))) + (1:Int))) + (1:Int))) + (1:Int))) + (1:Int)))))) then
 some (Sum.inl ((), (-1 : Int), ()))
 else
 bif ((decide ((0:Int) ≤ v.2.2.2.1)) && (decide (v.2.2.2.1 < (((List.length v.2.1) : Nat) : Int)))) then
 bif (decide ((Int.toNat v.2.2.2.1) < (List.length v.2.1))) then
 bif (!(decide ((List.getD v.2.1 (Int.toNat v.2.2.2.1) z_Module).2.2.2.2.2.2.1 = (IntKind.wrap .i64 ((IntKind.wrap .i64 ((IntKind.wrap .i64 ((IntKind.wrap .i64 ((IntKind.wrap .i64 ((IntKind.wrap .i64 ((IntKind.wrap .i64 ((IntKind.wrap .i64 ((IntKind.wrap .i64 ((IntKind.wrap .i64 ((IntKind.wrap .i64 ((IntKind.wrap .i64 ((IntKind.wrap .i64 ((IntKind.wrap .i64 ((IntKind.wrap .i64 ((IntKind.wrap .i64 (v.2.2.1 + (1:Int))) + (1:Int))) + (1:Int))) + (1:Int))) + (1:Int))) + (1:Int))) + (1:Int))) + (1:Int))) + (1:Int))) + (1:Int))) + (1:Int))) + (1:Int))) + (1:Int))) + (1:Int))) + (1:Int))) + (1:Int)))))) then
 some (Sum.inl ((), (-1 : Int), ()))
 else
 rec ((), v.2.1, (IntKind.wrap .i64 ((IntKind.wrap .i64 ((IntKind.wrap .i64 ((IntKind.wrap .i64 ((IntKind.wrap .i64 ((IntKind.wrap .i64 ((IntKind.wrap .i64 ((IntKind.wrap .i64 ((IntKind.wrap .i64 ((IntKind.wrap .i64 ((IntKind.wrap .i64 ((IntKind.wrap .i64 ((IntKind.wrap .i64 ((IntKind.wrap .i64 ((IntKind.wrap .i64 ((IntKind.wrap .i64 ((IntKind.wrap .i64 (v.2.2.1 + (1:Int))) + (1:Int))) + (1:Int))) + (1:Int))) + (1:Int))) + (1:Int))) + (1:Int))) + (1:Int))) + (1:Int))) + (1:Int))) + (1:Int))) + (1:Int))) + (1:Int))) + (1:Int))) + (1:Int))) + (1:Int))) + (1:Int))), (IntKind.wrap .i64 (v.2.2.2.1 + (1:Int))), ())
 else none
 else none
 else none
 else none
 else none
 else none
 else none
 else none
 else none
 else none
 else none
 else none
 else none
 else none
 else none
 else none
 else none
 else none
 else none
 else none
 else none
 else none
 else none
 else none
 else none
 else none
 else none
 else none
 else none
 else none
 else none
 else none
 else none
 else none
 else
 some (Sum.inr ((), v.2.2.1, ()))
def laws_heldModuleS (k : Nat) (x0 : (List D_Module)) (x1 : Int) : Option ((Int × Unit) × Unit) :=
 (iter (laws_heldModuleS_s2) k ((), x0, x1, (0:Int), ())).bind fun o1 =>
 Sum.elim (fun a2 =>
 some (a2.2, ()))
 (fun b3 =>
 some (b3.2, ())) o1
def laws_FnExactChainAt (k : Nat) (x0 : (List D_Event)) (x1 : Int) (x2 : Int) : Option ((Bool × Unit) × Unit) :=
 (laws_szEventS k x0 (1048576:Int)).bind fun t1 =>
 bif (decide (t1.1.1 < (0:Int))) then
 some ((true, ()), ())
 else
 (laws_toEventS k x0).bind fun t2 =>
 (spec_ChainAt k t2.1.1 x1 x2).bind fun t3 =>
 (laws_toEventS k x0).bind fun t4 =>
 (impl_ChainAt k t4.1.1 x1 x2).bind fun t5 =>
 (laws_eqModuleS k t5.1.1 t3.1.1).bind fun t6 =>
 bif (!t6.1.1) then
 some ((false, ()), ())
 else
 (laws_toEventS k x0).bind fun t7 =>
 (laws_eqEventS k t4.1.1 t7.1.1).bind fun t8 =>
 bif (!t8.1.1) then
 some ((false, ()), ())
 else
 (laws_markEventS k t4.1.1 (1:Int)).bind fun t9 =>
 bif (!(decide (t9.1.1 < (0:Int)))) then
 (laws_eqModuleS k t5.1.1 t3.1.1).bind fun t10 =>
 bif (!t10.1.1) then
 some ((false, ()), ())
 else
 (laws_markModuleS k t5.1.1 (1:Int)).bind fun t11 =>
 (laws_heldModuleS k t11.2.1 (1:Int)).bind fun t12 =>
 bif (decide (t12.1.1 < (0:Int))) then
 some ((false, ()), ())
 else
 bif (!(decide (t12.1.1 = t11.1.1))) then
 some ((false, ()), ())
 else
 (laws_toEventS k x0).bind fun t13 =>
 (impl_ChainAt k t13.1.1 x1 x2).bind fun t14 =>
 (laws_eqModuleS k t14.1.1 t3.1.1).bind fun t15 =>
 bif (!t15.1.1) then
 some ((false, ()), ())
 else
 (laws_heldModuleS k t11.2.1 (1:Int)).bind fun t16 =>
 bif (decide (t16.1.1 < (0:Int))) then
 some ((false, ()), ())
 else
 bif (!(decide (t16.1.1 = t11.1.1))) then
 some ((false, ()), ())
 else
 some ((true, ()), ())
 else
 some ((false, ()), ())
end Go.Tw
