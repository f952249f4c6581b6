/- The mirrors. -/
import Derived.Test.YtmnfadocihfiaaaGreatT24
set_option linter.all false
namespace Go.Tw
open Go Go.RowKit
abbrev iI (x : Int) : Int := x
abbrev T_Ext : Ty := (.pr (.int .i64) (.pr (.sl (.int .u8)) .un))
abbrev D_Ext := (Int × ((List Int) × Unit))
def z_Ext : D_Ext := ((0:Int), ([], ()))
abbrev T_Ether : Ty := (.pr (.int .i64) (.pr (.int .i64) (.pr (.int .i64) T_Ext)))
abbrev D_Ether := (Int × (Int × (Int × D_Ext)))
def z_Ether : D_Ether := ((0:Int), ((0:Int), ((0:Int), z_Ext)))
abbrev T_Addr : Ty := (.pr (.int .i64) (.pr (.int .i64) (.pr (.int .i64) (.pr (.int .i64) (.pr (.int .i64) .un)))))
abbrev D_Addr := (Int × (Int × (Int × (Int × (Int × Unit)))))
def z_Addr : D_Addr := ((0:Int), ((0:Int), ((0:Int), ((0:Int), ((0:Int), ())))))
abbrev T_Four : Ty := (.pr (.int .i64) (.pr (.int .i64) (.pr (.int .i64) (.pr (.int .i64) (.pr (.int .i64) (.pr (.int .i64) (.pr (.int .i64) (.pr T_Addr (.pr T_Addr (.pr (.sl (.int .u8)) (.pr (.sl (.int .u8)) .un)))))))))))
abbrev D_Four := (Int × (Int × (Int × (Int × (Int × (Int × (Int × (D_Addr × (D_Addr × ((List Int) × ((List Int) × Unit)))))))))))
def z_Four : D_Four := ((0:Int), ((0:Int), ((0:Int), ((0:Int), ((0:Int), ((0:Int), ((0:Int), (z_Addr, (z_Addr, ([], ([], ())))))))))))
abbrev T_Six : Ty := (.pr (.int .i64) (.pr (.int .i64) (.pr (.int .i64) (.pr (.int .i64) (.pr T_Addr (.pr T_Addr (.pr (.sl T_Ext) (.pr (.sl (.int .u8)) .un))))))))
abbrev D_Six := (Int × (Int × (Int × (Int × (D_Addr × (D_Addr × ((List D_Ext) × ((List Int) × Unit))))))))
def z_Six : D_Six := ((0:Int), ((0:Int), ((0:Int), ((0:Int), (z_Addr, (z_Addr, ([], ([], ()))))))))
abbrev T_Upper : Ty := (.pr (.int .i64) (.pr (.int .i64) (.pr (.int .i64) (.pr (.int .i64) (.pr (.int .i64) (.pr (.int .i64) (.pr (.int .i64) (.pr (.int .i64) (.pr (.int .i64) (.pr (.int .i64) (.pr (.int .i64) (.pr .bool (.pr (.sl (.int .u8)) (.pr (.sl (.int .u8)) .un))))))))))))))
abbrev D_Upper := (Int × (Int × (Int × (Int × (Int × (Int × (Int × (Int × (Int × (Int × (Int × (Bool × ((List Int) × ((List Int) × Unit))))))))))))))
def z_Upper : D_Upper := ((0:Int), ((0:Int), ((0:Int), ((0:Int), ((0:Int), ((0:Int), ((0:Int), ((0:Int), ((0:Int), ((0:Int), ((0:Int), (false, ([], ([], ()))))))))))))))
abbrev T_Packet : Ty := (.pr (.int .i64) (.pr T_Ether (.pr T_Four (.pr T_Six (.pr T_Upper (.pr (.sl (.int .u8)) .un))))))
abbrev D_Packet := (Int × (D_Ether × (D_Four × (D_Six × (D_Upper × ((List Int) × Unit))))))
def z_Packet : D_Packet := ((0:Int), (z_Ether, (z_Four, (z_Six, (z_Upper, ([], ()))))))
abbrev T_l01Cur : Ty := (.pr (.sl (.int .u8)) (.pr (.int .i64) (.pr (.int .i64) .un)))
abbrev D_l01Cur := ((List Int) × (Int × (Int × Unit)))
def z_l01Cur : D_l01Cur := ([], ((0:Int), ((0:Int), ())))
abbrev zzE : D_Ether := ((0:Int), (0:Int), (0:Int), (0:Int), ([] : List Int), ())
abbrev zzU : D_Upper := ((0:Int), (0:Int), (0:Int), (0:Int), (0:Int), (0:Int), (0:Int), (0:Int), (0:Int), (0:Int), (0:Int), false, ([] : List Int), ([] : List Int), ())
abbrev zzS : D_Six := ((0:Int), (0:Int), (0:Int), (0:Int), ((0:Int), (0:Int), (0:Int), (0:Int), (0:Int), ()), ((0:Int), (0:Int), (0:Int), (0:Int), (0:Int), ()), ([] : List D_Ext), ([] : List Int), ())
abbrev zzF : D_Four := ((0:Int), (0:Int), (0:Int), (0:Int), (0:Int), (0:Int), (0:Int), ((0:Int), (0:Int), (0:Int), (0:Int), (0:Int), ()), ((0:Int), (0:Int), (0:Int), (0:Int), (0:Int), ()), ([] : List Int), ([] : List Int), ())
abbrev zzP : D_Packet := ((0:Int), ((0:Int), (0:Int), (0:Int), (0:Int), ([] : List Int), ()), ((0:Int), (0:Int), (0:Int), (0:Int), (0:Int), (0:Int), (0:Int), ((0:Int), (0:Int), (0:Int), (0:Int), (0:Int), ()), ((0:Int), (0:Int), (0:Int), (0:Int), (0:Int), ()), ([] : List Int), ([] : List Int), ()), ((0:Int), (0:Int), (0:Int), (0:Int), ((0:Int), (0:Int), (0:Int), (0:Int), (0:Int), ()), ((0:Int), (0:Int), (0:Int), (0:Int), (0:Int), ()), ([] : List D_Ext), ([] : List Int), ()), ((0:Int), (0:Int), (0:Int), (0:Int), (0:Int), (0:Int), (0:Int), (0:Int), (0:Int), (0:Int), (0:Int), false, ([] : List Int), ([] : List Int), ()), ([] : List Int), ())
def laws_big (x0 : (List Int)) : Option ((Bool × Unit) × Unit) :=
 some (((decide ((1048576:Int) < (((List.length x0) : Nat) : Int))), ()), ())
def spec_l08Src (x0 : D_Packet) : Option ((D_Addr × Unit) × Unit) :=
 bif (decide (x0.1 = (4:Int))) then
 some ((x0.2.2.1.2.2.2.2.2.2.2.1, ()), ())
 else
 some ((x0.2.2.2.1.2.2.2.2.1, ()), ())
def spec_l08Dst (x0 : D_Packet) : Option ((D_Addr × Unit) × Unit) :=
 bif (decide (x0.1 = (4:Int))) then
 some ((x0.2.2.1.2.2.2.2.2.2.2.2.1, ()), ())
 else
 some ((x0.2.2.2.1.2.2.2.2.2.1, ()), ())
def spec_l03Half (x0 : Int) : Option ((Bool × Unit) × Unit) :=
 bif (decide ((0:Int) ≤ x0)) then
 some (((decide (x0 ≤ (4294967295:Int))), ()), ())
 else
 some ((false, ()), ())
def spec_AddrOk (x0 : D_Addr) : Option ((Bool × Unit) × Unit) :=
 bif (decide (x0.1 = (4:Int))) then
 bif (decide (x0.2.1 = (0:Int))) then
 bif (decide (x0.2.2.1 = (0:Int))) then
 bif (decide (x0.2.2.2.1 = (0:Int))) then
 (spec_l03Half x0.2.2.2.2.1).bind fun t1 =>
 some (t1.1, ())
 else
 some ((false, ()), ())
 else
 some ((false, ()), ())
 else
 some ((false, ()), ())
 else
 bif (decide (x0.1 = (6:Int))) then
 (spec_l03Half x0.2.1).bind fun t2 =>
 bif t2.1.1 then
 (spec_l03Half x0.2.2.1).bind fun t3 =>
 bif t3.1.1 then
 (spec_l03Half x0.2.2.2.1).bind fun t4 =>
 bif t4.1.1 then
 (spec_l03Half x0.2.2.2.2.1).bind fun t5 =>
 some (t5.1, ())
 else
 some ((false, ()), ())
 else
 some ((false, ()), ())
 else
 some ((false, ()), ())
 else
 some ((false, ()), ())
def spec_l07Pair (x0 : D_Addr) (x1 : D_Addr) : Option ((Bool × Unit) × Unit) :=
 (spec_AddrOk x0).bind fun t1 =>
 bif t1.1.1 then
 (spec_AddrOk x1).bind fun t2 =>
 bif t2.1.1 then
 some (((decide (x0.1 = x1.1)), ()), ())
 else
 some ((false, ()), ())
 else
 some ((false, ()), ())
def spec_l05In (x0 : Int) (x1 : Int) : Option ((Bool × Unit) × Unit) :=
 bif (decide ((0:Int) ≤ x0)) then
 some (((decide (x0 ≤ x1)), ()), ())
 else
 some ((false, ()), ())
def spec_UpperSize (x0 : D_Upper) : Option ((Int × Unit) × Unit) :=
 bif (decide (x0.1 = (0:Int))) then
 some (((((List.length x0.2.2.2.2.2.2.2.2.2.2.2.2.2.1) : Nat) : Int), ()), ())
 else
 bif (decide (x0.1 = (1:Int))) then
 some (((IntKind.wrap .i64 ((IntKind.wrap .i64 ((20:Int) + (((List.length x0.2.2.2.2.2.2.2.2.2.2.2.2.1) : Nat) : Int))) + (((List.length x0.2.2.2.2.2.2.2.2.2.2.2.2.2.1) : Nat) : Int))), ()), ())
 else
 bif (decide (x0.1 = (2:Int))) then
 bif (decide (x0.1 = (2:Int))) then
 some (((IntKind.wrap .i64 ((8:Int) + (((List.length x0.2.2.2.2.2.2.2.2.2.2.2.2.2.1) : Nat) : Int))), ()), ())
 else
 some (((-1:Int), ()), ())
 else
 bif (decide (x0.1 = (3:Int))) then
 some (((IntKind.wrap .i64 ((8:Int) + (((List.length x0.2.2.2.2.2.2.2.2.2.2.2.2.2.1) : Nat) : Int))), ()), ())
 else
 some (((-1:Int), ()), ())
abbrev spec_UpperOk_j3 (x0 : D_Upper) (x1 : Int) : Option ((Bool × Unit) × Unit) :=
 bif x0.2.2.2.2.2.2.2.2.2.2.2.1 then
 bif (!(!(decide (x0.1 = (2:Int))))) then
 bif (!(decide (x1 = (4:Int)))) then
 some ((false, ()), ())
 else
 (spec_UpperSize x0).bind fun t11 =>
 bif (decide ((0:Int) ≤ t11.1.1)) then
 some (((decide (t11.1.1 ≤ (1500:Int))), ()), ())
 else
 some ((false, ()), ())
 else
 some ((false, ()), ())
 else
 (spec_UpperSize x0).bind fun t12 =>
 bif (decide ((0:Int) ≤ t12.1.1)) then
 some (((decide (t12.1.1 ≤ (1500:Int))), ()), ())
 else
 some ((false, ()), ())
abbrev spec_UpperOk_j2 (x0 : D_Upper) (x1 : Int) : Option ((Bool × Unit) × Unit) :=
 bif (decide (x0.1 = (3:Int))) then
 (spec_l05In x0.2.2.2.2.2.2.2.2.1 (255:Int)).bind fun t8 =>
 bif (!(!t8.1.1)) then
 (spec_l05In x0.2.2.2.2.2.2.2.2.2.1 (255:Int)).bind fun t9 =>
 bif (!(!t9.1.1)) then
 (spec_l03Half x0.2.2.2.2.2.2.2.2.2.2.1).bind fun t10 =>
 bif (!t10.1.1) then
 some ((false, ()), ())
 else
 spec_UpperOk_j3 x0 x1
 else
 some ((false, ()), ())
 else
 some ((false, ()), ())
 else
 bif (!(!(decide (x0.2.2.2.2.2.2.2.2.1 = (0:Int))))) then
 bif (!(!(decide (x0.2.2.2.2.2.2.2.2.2.1 = (0:Int))))) then
 bif (!(decide (x0.2.2.2.2.2.2.2.2.2.2.1 = (0:Int)))) then
 some ((false, ()), ())
 else
 spec_UpperOk_j3 x0 x1
 else
 some ((false, ()), ())
 else
 some ((false, ()), ())
abbrev spec_UpperOk_j1 (x0 : D_Upper) (x1 : Int) : Option ((Bool × Unit) × Unit) :=
 bif (decide (x0.1 = (1:Int))) then
 (spec_l03Half x0.2.2.2.1).bind fun t3 =>
 bif (!(!t3.1.1)) then
 (spec_l03Half x0.2.2.2.2.1).bind fun t4 =>
 bif (!(!t4.1.1)) then
 (spec_l05In x0.2.2.2.2.2.1 (4095:Int)).bind fun t5 =>
 bif (!(!t5.1.1)) then
 (spec_l05In x0.2.2.2.2.2.2.1 (65535:Int)).bind fun t6 =>
 bif (!(!t6.1.1)) then
 (spec_l05In x0.2.2.2.2.2.2.2.1 (65535:Int)).bind fun t7 =>
 bif (!(!t7.1.1)) then
 bif (!(decide ((40:Int) < (((List.length x0.2.2.2.2.2.2.2.2.2.2.2.2.1) : Nat) : Int)))) then
 bif (!(decide ((Int.tmod (((List.length x0.2.2.2.2.2.2.2.2.2.2.2.2.1) : Nat) : Int) (4:Int)) = (0:Int)))) then
 some ((false, ()), ())
 else
 spec_UpperOk_j2 x0 x1
 else
 some ((false, ()), ())
 else
 some ((false, ()), ())
 else
 some ((false, ()), ())
 else
 some ((false, ()), ())
 else
 some ((false, ()), ())
 else
 some ((false, ()), ())
 else
 bif (!(!(decide (x0.2.2.2.1 = (0:Int))))) then
 bif (!(!(decide (x0.2.2.2.2.1 = (0:Int))))) then
 bif (!(!(decide (x0.2.2.2.2.2.1 = (0:Int))))) then
 bif (!(!(decide (x0.2.2.2.2.2.2.1 = (0:Int))))) then
 bif (!(!(decide (x0.2.2.2.2.2.2.2.1 = (0:Int))))) then
 bif (!(decide ((((List.length x0.2.2.2.2.2.2.2.2.2.2.2.2.1) : Nat) : Int) = (0:Int)))) then
 some ((false, ()), ())
 else
 spec_UpperOk_j2 x0 x1
 else
 some ((false, ()), ())
 else
 some ((false, ()), ())
 else
 some ((false, ()), ())
 else
 some ((false, ()), ())
 else
 some ((false, ()), ())
abbrev spec_UpperOk_j0 (x0 : D_Upper) (x1 : Int) : Option ((Bool × Unit) × Unit) :=
 bif (!(decide (x0.1 = (1:Int)))) then
 (spec_l05In x0.2.1 (65535:Int)).bind fun t1 =>
 bif (!(!t1.1.1)) then
 (spec_l05In x0.2.2.1 (65535:Int)).bind fun t2 =>
 bif (!(!t2.1.1)) then
 bif (!(decide (x0.1 = (2:Int)))) then
 bif (!(!(decide (x0.2.1 = (0:Int))))) then
 bif (!(decide (x0.2.2.1 = (0:Int)))) then
 some ((false, ()), ())
 else
 spec_UpperOk_j1 x0 x1
 else
 some ((false, ()), ())
 else
 spec_UpperOk_j1 x0 x1
 else
 some ((false, ()), ())
 else
 some ((false, ()), ())
 else
 (spec_l05In x0.2.1 (65535:Int)).bind fun t41 =>
 bif (!(!t41.1.1)) then
 (spec_l05In x0.2.2.1 (65535:Int)).bind fun t42 =>
 bif (!(!t42.1.1)) then
 spec_UpperOk_j1 x0 x1
 else
 some ((false, ()), ())
 else
 some ((false, ()), ())
def spec_UpperOk (x0 : D_Upper) (x1 : Int) : Option ((Bool × Unit) × Unit) :=
 bif (!(decide (x1 = (4:Int)))) then
 bif (!(decide (x1 = (6:Int)))) then
 some ((false, ()), ())
 else
 spec_UpperOk_j0 x0 x1
 else
 spec_UpperOk_j0 x0 x1
def spec_l01Low (x0 : Int) (x1 : Int) : Option ((Int × Unit) × Unit) :=
 bif (!(decide (x1 = (0:Int)))) then
 bif (decide ((Int.tmod x0 x1) < (0:Int))) then
 some (((IntKind.wrap .i64 ((Int.tmod x0 x1) + x1)), ()), ())
 else
 some (((Int.tmod x0 x1), ()), ())
 else none
def spec_Put16 (x0 : Int) : Option (((List Int) × Unit) × Unit) :=
 (spec_l01Low x0 (65536:Int)).bind fun t1 =>
 some ((([(IntKind.wrap .u8 (IntKind.wrap .i64 (Int.tdiv t1.1.1 (256:Int)))), (IntKind.wrap .u8 (Int.tmod t1.1.1 (256:Int)))] : List Int), ()), ())
def spec_Put32 (x0 : Int) : Option (((List Int) × Unit) × Unit) :=
 (spec_l01Low x0 (4294967296:Int)).bind fun t1 =>
 (spec_Put16 (IntKind.wrap .i64 (Int.tdiv t1.1.1 (65536:Int)))).bind fun t2 =>
 (spec_Put16 (Int.tmod t1.1.1 (65536:Int))).bind fun t3 =>
 bif (decide ((((List.length t2.1.1) + (List.length t3.1.1)) * 1) ≤ (1099511627776:Nat))) then
 some (((t2.1.1 ++ t3.1.1), ()), ())
 else none
def spec_AddrBytes (x0 : D_Addr) : Option (((List Int) × Unit) × Unit) :=
 (spec_AddrOk x0).bind fun t1 =>
 bif (!t1.1.1) then
 some ((([] : List Int), ()), ())
 else
 bif (decide (x0.1 = (4:Int))) then
 (spec_Put32 x0.2.2.2.2.1).bind fun t2 =>
 some (t2.1, ())
 else
 (spec_Put32 x0.2.1).bind fun t3 =>
 (spec_Put32 x0.2.2.1).bind fun t4 =>
 bif (decide ((((List.length t3.1.1) + (List.length t4.1.1)) * 1) ≤ (1099511627776:Nat))) then
 (spec_Put32 x0.2.2.2.1).bind fun t5 =>
 bif (decide ((((List.length (t3.1.1 ++ t4.1.1)) + (List.length t5.1.1)) * 1) ≤ (1099511627776:Nat))) then
 (spec_Put32 x0.2.2.2.2.1).bind fun t6 =>
 bif (decide ((((List.length ((t3.1.1 ++ t4.1.1) ++ t5.1.1)) + (List.length t6.1.1)) * 1) ≤ (1099511627776:Nat))) then
 some (((((t3.1.1 ++ t4.1.1) ++ t5.1.1) ++ t6.1.1), ()), ())
 else none
 else none
 else none
def spec_l02Word (x0 : Int) : Option ((Bool × Unit) × Unit) :=
 bif (decide ((0:Int) ≤ x0)) then
 some (((decide (x0 ≤ (65535:Int))), ()), ())
 else
 some ((false, ()), ())
def spec_SumAdd (x0 : Int) (x1 : Int) : Option ((Int × Unit) × Unit) :=
 (spec_l02Word x0).bind fun t1 =>
 bif (!(!t1.1.1)) then
 (spec_l02Word x1).bind fun t2 =>
 bif (!t2.1.1) then
 some (((-1:Int), ()), ())
 else
 bif (decide ((65535:Int) < (IntKind.wrap .i64 (x0 + x1)))) then
 some (((IntKind.wrap .i64 ((IntKind.wrap .i64 (x0 + x1)) - (65535:Int))), ()), ())
 else
 some (((IntKind.wrap .i64 (x0 + x1)), ()), ())
 else
 some (((-1:Int), ()), ())
def spec_OnesSum_s5 (rec : (Unit × D_l01Cur) → Option ((Unit × (Int × Unit)))) (v : (Unit × D_l01Cur)) : Option ((Unit × (Int × Unit))) :=
 bif (decide (v.2.2.2.1 < (((List.length v.2.1) : Nat) : Int))) then
 bif ((decide ((0:Int) ≤ v.2.2.2.1)) && (decide (v.2.2.2.1 < (((List.length v.2.1) : Nat) : Int)))) then
 bif (decide ((Int.toNat v.2.2.2.1) < (List.length v.2.1))) then
 bif (decide ((IntKind.wrap .i64 (v.2.2.2.1 + (1:Int))) < (((List.length v.2.1) : Nat) : Int))) then
 bif ((decide ((0:Int) ≤ (IntKind.wrap .i64 (v.2.2.2.1 + (1:Int))))) && (decide ((IntKind.wrap .i64 (v.2.2.2.1 + (1:Int))) < (((List.length v.2.1) : Nat) : Int)))) then
 bif (decide ((Int.toNat (IntKind.wrap .i64 (v.2.2.2.1 + (1:Int)))) < (List.length v.2.1))) then
 (spec_SumAdd v.2.2.1 (IntKind.wrap .i64 ((IntKind.wrap .i64 ((256:Int) * (IntKind.wrap .i64 (List.getD v.2.1 (Int.toNat v.2.2.2.1) (0:Int))))) + (IntKind.wrap .i64 (List.getD v.2.1 (Int.toNat (IntKind.wrap .i64 (v.2.2.2.1 + (1:Int)))) (0:Int)))))).bind fun t1 =>
 rec ((), v.2.1, t1.1.1, (IntKind.wrap .i64 (v.2.2.2.1 + (2:Int))), ())
 else none
 else none
 else
 (spec_SumAdd v.2.2.1 (IntKind.wrap .i64 ((256:Int) * (IntKind.wrap .i64 (List.getD v.2.1 (Int.toNat v.2.2.2.1) (0:Int)))))).bind fun t2 =>
 rec ((), v.2.1, t2.1.1, (IntKind.wrap .i64 (v.2.2.2.1 + (2:Int))), ())
 else none
 else none
 else
 some ((), v.2.2.1, ())
def spec_OnesSum (k : Nat) (x0 : (List Int)) : Option ((Int × Unit) × Unit) :=
 bif (decide ((2000:Int) < (((List.length x0) : Nat) : Int))) then
 some (((-1:Int), ()), ())
 else
 (iter (spec_OnesSum_s5) k ((), x0, (0:Int), (0:Int), ())).bind fun o1 =>
 some (o1.2, ())
def spec_PseudoSum (k : Nat) (x0 : D_Addr) (x1 : D_Addr) (x2 : Int) (x3 : Int) : Option ((Int × Unit) × Unit) :=
 (spec_l07Pair x0 x1).bind fun t1 =>
 bif (!(!t1.1.1)) then
 (spec_l05In x2 (255:Int)).bind fun t2 =>
 bif (!(!t2.1.1)) then
 (spec_l05In x3 (1500:Int)).bind fun t3 =>
 bif (!t3.1.1) then
 some (((-1:Int), ()), ())
 else
 (spec_AddrBytes x0).bind fun t4 =>
 (spec_AddrBytes x1).bind fun t5 =>
 bif (decide ((((List.length t4.1.1) + (List.length t5.1.1)) * 1) ≤ (1099511627776:Nat))) then
 bif (decide (x0.1 = (4:Int))) then
 bif (decide ((((List.length (t4.1.1 ++ t5.1.1)) + (2:Nat)) * 1) ≤ (1099511627776:Nat))) then
 (spec_Put16 x3).bind fun t6 =>
 bif (decide ((((List.length ((t4.1.1 ++ t5.1.1) ++ ([(0:Int), (IntKind.wrap .u8 x2)] : List Int))) + (List.length t6.1.1)) * 1) ≤ (1099511627776:Nat))) then
 (spec_OnesSum k (((t4.1.1 ++ t5.1.1) ++ ([(0:Int), (IntKind.wrap .u8 x2)] : List Int)) ++ t6.1.1)).bind fun t7 =>
 some (t7.1, ())
 else none
 else none
 else
 (spec_Put32 x3).bind fun t8 =>
 bif (decide ((((List.length (t4.1.1 ++ t5.1.1)) + (List.length t8.1.1)) * 1) ≤ (1099511627776:Nat))) then
 bif (decide ((((List.length ((t4.1.1 ++ t5.1.1) ++ t8.1.1)) + (4:Nat)) * 1) ≤ (1099511627776:Nat))) then
 (spec_OnesSum k (((t4.1.1 ++ t5.1.1) ++ t8.1.1) ++ ([(0:Int), (0:Int), (0:Int), (IntKind.wrap .u8 x2)] : List Int))).bind fun t9 =>
 some (t9.1, ())
 else none
 else none
 else none
 else
 some (((-1:Int), ()), ())
 else
 some (((-1:Int), ()), ())
abbrev spec_l07Bytes_j0 (x0 : D_Upper) (x1 : Int) : Option (((List Int) × Unit) × Unit) :=
 (spec_Put16 x0.2.1).bind fun t1 =>
 (spec_Put16 x0.2.2.1).bind fun t2 =>
 bif (decide ((((List.length t1.1.1) + (List.length t2.1.1)) * 1) ≤ (1099511627776:Nat))) then
 bif (decide (x0.1 = (1:Int))) then
 (spec_Put32 x0.2.2.2.1).bind fun t3 =>
 bif (decide ((((List.length (t1.1.1 ++ t2.1.1)) + (List.length t3.1.1)) * 1) ≤ (1099511627776:Nat))) then
 (spec_Put32 x0.2.2.2.2.1).bind fun t4 =>
 bif (decide ((((List.length ((t1.1.1 ++ t2.1.1) ++ t3.1.1)) + (List.length t4.1.1)) * 1) ≤ (1099511627776:Nat))) then
 (spec_Put16 (IntKind.wrap .i64 ((IntKind.wrap .i64 ((4096:Int) * (IntKind.wrap .i64 ((5:Int) + (IntKind.wrap .i64 (Int.tdiv (((List.length x0.2.2.2.2.2.2.2.2.2.2.2.2.1) : Nat) : Int) (4:Int))))))) + x0.2.2.2.2.2.1))).bind fun t5 =>
 bif (decide ((((List.length (((t1.1.1 ++ t2.1.1) ++ t3.1.1) ++ t4.1.1)) + (List.length t5.1.1)) * 1) ≤ (1099511627776:Nat))) then
 (spec_Put16 x0.2.2.2.2.2.2.1).bind fun t6 =>
 bif (decide ((((List.length ((((t1.1.1 ++ t2.1.1) ++ t3.1.1) ++ t4.1.1) ++ t5.1.1)) + (List.length t6.1.1)) * 1) ≤ (1099511627776:Nat))) then
 (spec_Put16 x1).bind fun t7 =>
 bif (decide ((((List.length (((((t1.1.1 ++ t2.1.1) ++ t3.1.1) ++ t4.1.1) ++ t5.1.1) ++ t6.1.1)) + (List.length t7.1.1)) * 1) ≤ (1099511627776:Nat))) then
 (spec_Put16 x0.2.2.2.2.2.2.2.1).bind fun t8 =>
 bif (decide ((((List.length ((((((t1.1.1 ++ t2.1.1) ++ t3.1.1) ++ t4.1.1) ++ t5.1.1) ++ t6.1.1) ++ t7.1.1)) + (List.length t8.1.1)) * 1) ≤ (1099511627776:Nat))) then
 bif (decide ((((List.length (((((((t1.1.1 ++ t2.1.1) ++ t3.1.1) ++ t4.1.1) ++ t5.1.1) ++ t6.1.1) ++ t7.1.1) ++ t8.1.1)) + (List.length x0.2.2.2.2.2.2.2.2.2.2.2.2.1)) * 1) ≤ (1099511627776:Nat))) then
 bif (decide ((((List.length ((((((((t1.1.1 ++ t2.1.1) ++ t3.1.1) ++ t4.1.1) ++ t5.1.1) ++ t6.1.1) ++ t7.1.1) ++ t8.1.1) ++ x0.2.2.2.2.2.2.2.2.2.2.2.2.1)) + (List.length x0.2.2.2.2.2.2.2.2.2.2.2.2.2.1)) * 1) ≤ (1099511627776:Nat))) then
 some (((((((((((t1.1.1 ++ t2.1.1) ++ t3.1.1) ++ t4.1.1) ++ t5.1.1) ++ t6.1.1) ++ t7.1.1) ++ t8.1.1) ++ x0.2.2.2.2.2.2.2.2.2.2.2.2.1) ++ x0.2.2.2.2.2.2.2.2.2.2.2.2.2.1), ()), ())
 else none
 else none
 else none
 else none
 else none
 else none
 else none
 else none
 else
 bif (decide (x0.1 = (2:Int))) then
 (spec_UpperSize x0).bind fun t9 =>
 (spec_Put16 t9.1.1).bind fun t10 =>
 bif (decide ((((List.length (t1.1.1 ++ t2.1.1)) + (List.length t10.1.1)) * 1) ≤ (1099511627776:Nat))) then
 (spec_Put16 x1).bind fun t11 =>
 bif (decide ((((List.length ((t1.1.1 ++ t2.1.1) ++ t10.1.1)) + (List.length t11.1.1)) * 1) ≤ (1099511627776:Nat))) then
 bif (decide ((((List.length (((t1.1.1 ++ t2.1.1) ++ t10.1.1) ++ t11.1.1)) + (List.length x0.2.2.2.2.2.2.2.2.2.2.2.2.2.1)) * 1) ≤ (1099511627776:Nat))) then
 some ((((((t1.1.1 ++ t2.1.1) ++ t10.1.1) ++ t11.1.1) ++ x0.2.2.2.2.2.2.2.2.2.2.2.2.2.1), ()), ())
 else none
 else none
 else none
 else
 bif (decide (x0.1 = (3:Int))) then
 bif (decide ((((List.length (t1.1.1 ++ t2.1.1)) + (2:Nat)) * 1) ≤ (1099511627776:Nat))) then
 (spec_Put16 x1).bind fun t12 =>
 bif (decide ((((List.length ((t1.1.1 ++ t2.1.1) ++ ([(IntKind.wrap .u8 x0.2.2.2.2.2.2.2.2.1), (IntKind.wrap .u8 x0.2.2.2.2.2.2.2.2.2.1)] : List Int))) + (List.length t12.1.1)) * 1) ≤ (1099511627776:Nat))) then
 (spec_Put32 x0.2.2.2.2.2.2.2.2.2.2.1).bind fun t13 =>
 bif (decide ((((List.length (((t1.1.1 ++ t2.1.1) ++ ([(IntKind.wrap .u8 x0.2.2.2.2.2.2.2.2.1), (IntKind.wrap .u8 x0.2.2.2.2.2.2.2.2.2.1)] : List Int)) ++ t12.1.1)) + (List.length t13.1.1)) * 1) ≤ (1099511627776:Nat))) then
 bif (decide ((((List.length ((((t1.1.1 ++ t2.1.1) ++ ([(IntKind.wrap .u8 x0.2.2.2.2.2.2.2.2.1), (IntKind.wrap .u8 x0.2.2.2.2.2.2.2.2.2.1)] : List Int)) ++ t12.1.1) ++ t13.1.1)) + (List.length x0.2.2.2.2.2.2.2.2.2.2.2.2.2.1)) * 1) ≤ (1099511627776:Nat))) then
 some (((((((t1.1.1 ++ t2.1.1) ++ ([(IntKind.wrap .u8 x0.2.2.2.2.2.2.2.2.1), (IntKind.wrap .u8 x0.2.2.2.2.2.2.2.2.2.1)] : List Int)) ++ t12.1.1) ++ t13.1.1) ++ x0.2.2.2.2.2.2.2.2.2.2.2.2.2.1), ()), ())
 else none
 else none
 else none
 else none
 else
 bif (decide ((((List.length (t1.1.1 ++ t2.1.1)) + (List.length x0.2.2.2.2.2.2.2.2.2.2.2.2.2.1)) * 1) ≤ (1099511627776:Nat))) then
 some ((((t1.1.1 ++ t2.1.1) ++ x0.2.2.2.2.2.2.2.2.2.2.2.2.2.1), ()), ())
 else none
 else none
def spec_l07Bytes (x0 : D_Upper) (x1 : Int) : Option (((List Int) × Unit) × Unit) :=
 bif (!(decide (x0.1 = (1:Int)))) then
 bif (decide (x0.1 = (2:Int))) then
 spec_l07Bytes_j0 x0 x1
 else
 bif (decide (x0.1 = (1:Int))) then
 (spec_Put32 x0.2.2.2.1).bind fun t14 =>
 bif (decide ((((0:Nat) + (List.length t14.1.1)) * 1) ≤ (1099511627776:Nat))) then
 (spec_Put32 x0.2.2.2.2.1).bind fun t15 =>
 bif (decide ((((List.length t14.1.1) + (List.length t15.1.1)) * 1) ≤ (1099511627776:Nat))) then
 (spec_Put16 (IntKind.wrap .i64 ((IntKind.wrap .i64 ((4096:Int) * (IntKind.wrap .i64 ((5:Int) + (IntKind.wrap .i64 (Int.tdiv (((List.length x0.2.2.2.2.2.2.2.2.2.2.2.2.1) : Nat) : Int) (4:Int))))))) + x0.2.2.2.2.2.1))).bind fun t16 =>
 bif (decide ((((List.length (t14.1.1 ++ t15.1.1)) + (List.length t16.1.1)) * 1) ≤ (1099511627776:Nat))) then
 (spec_Put16 x0.2.2.2.2.2.2.1).bind fun t17 =>
 bif (decide ((((List.length ((t14.1.1 ++ t15.1.1) ++ t16.1.1)) + (List.length t17.1.1)) * 1) ≤ (1099511627776:Nat))) then
 (spec_Put16 x1).bind fun t18 =>
 bif (decide ((((List.length (((t14.1.1 ++ t15.1.1) ++ t16.1.1) ++ t17.1.1)) + (List.length t18.1.1)) * 1) ≤ (1099511627776:Nat))) then
 (spec_Put16 x0.2.2.2.2.2.2.2.1).bind fun t19 =>
 bif (decide ((((List.length ((((t14.1.1 ++ t15.1.1) ++ t16.1.1) ++ t17.1.1) ++ t18.1.1)) + (List.length t19.1.1)) * 1) ≤ (1099511627776:Nat))) then
 bif (decide ((((List.length (((((t14.1.1 ++ t15.1.1) ++ t16.1.1) ++ t17.1.1) ++ t18.1.1) ++ t19.1.1)) + (List.length x0.2.2.2.2.2.2.2.2.2.2.2.2.1)) * 1) ≤ (1099511627776:Nat))) then
 bif (decide ((((List.length ((((((t14.1.1 ++ t15.1.1) ++ t16.1.1) ++ t17.1.1) ++ t18.1.1) ++ t19.1.1) ++ x0.2.2.2.2.2.2.2.2.2.2.2.2.1)) + (List.length x0.2.2.2.2.2.2.2.2.2.2.2.2.2.1)) * 1) ≤ (1099511627776:Nat))) then
 some (((((((((t14.1.1 ++ t15.1.1) ++ t16.1.1) ++ t17.1.1) ++ t18.1.1) ++ t19.1.1) ++ x0.2.2.2.2.2.2.2.2.2.2.2.2.1) ++ x0.2.2.2.2.2.2.2.2.2.2.2.2.2.1), ()), ())
 else none
 else none
 else none
 else none
 else none
 else none
 else none
 else none
 else
 bif (decide (x0.1 = (2:Int))) then
 (spec_UpperSize x0).bind fun t20 =>
 (spec_Put16 t20.1.1).bind fun t21 =>
 bif (decide ((((0:Nat) + (List.length t21.1.1)) * 1) ≤ (1099511627776:Nat))) then
 (spec_Put16 x1).bind fun t22 =>
 bif (decide ((((List.length t21.1.1) + (List.length t22.1.1)) * 1) ≤ (1099511627776:Nat))) then
 bif (decide ((((List.length (t21.1.1 ++ t22.1.1)) + (List.length x0.2.2.2.2.2.2.2.2.2.2.2.2.2.1)) * 1) ≤ (1099511627776:Nat))) then
 some ((((t21.1.1 ++ t22.1.1) ++ x0.2.2.2.2.2.2.2.2.2.2.2.2.2.1), ()), ())
 else none
 else none
 else none
 else
 bif (decide (x0.1 = (3:Int))) then
 (spec_Put16 x1).bind fun t23 =>
 bif (decide ((((2:Nat) + (List.length t23.1.1)) * 1) ≤ (1099511627776:Nat))) then
 (spec_Put32 x0.2.2.2.2.2.2.2.2.2.2.1).bind fun t24 =>
 bif (decide ((((List.length (([(IntKind.wrap .u8 x0.2.2.2.2.2.2.2.2.1), (IntKind.wrap .u8 x0.2.2.2.2.2.2.2.2.2.1)] : List Int) ++ t23.1.1)) + (List.length t24.1.1)) * 1) ≤ (1099511627776:Nat))) then
 bif (decide ((((List.length ((([(IntKind.wrap .u8 x0.2.2.2.2.2.2.2.2.1), (IntKind.wrap .u8 x0.2.2.2.2.2.2.2.2.2.1)] : List Int) ++ t23.1.1) ++ t24.1.1)) + (List.length x0.2.2.2.2.2.2.2.2.2.2.2.2.2.1)) * 1) ≤ (1099511627776:Nat))) then
 some (((((([(IntKind.wrap .u8 x0.2.2.2.2.2.2.2.2.1), (IntKind.wrap .u8 x0.2.2.2.2.2.2.2.2.2.1)] : List Int) ++ t23.1.1) ++ t24.1.1) ++ x0.2.2.2.2.2.2.2.2.2.2.2.2.2.1), ()), ())
 else none
 else none
 else none
 else
 bif (decide ((((0:Nat) + (List.length x0.2.2.2.2.2.2.2.2.2.2.2.2.2.1)) * 1) ≤ (1099511627776:Nat))) then
 some (x0.2.2.2.2.2.2.2.2.2.2.2.2.2, ())
 else none
 else
 spec_l07Bytes_j0 x0 x1
def spec_UpperSum (k : Nat) (x0 : D_Upper) (x1 : D_Addr) (x2 : D_Addr) : Option ((Int × Unit) × Unit) :=
 (spec_l07Pair x1 x2).bind fun t1 =>
 bif (!(!t1.1.1)) then
 (spec_UpperOk x0 x1.1).bind fun t2 =>
 bif (!t2.1.1) then
 some (((-1:Int), ()), ())
 else
 bif (!(decide (x0.1 = (0:Int)))) then
 bif x0.2.2.2.2.2.2.2.2.2.2.2.1 then
 some (((0:Int), ()), ())
 else
 bif (decide (x0.1 = (1:Int))) then
 (spec_UpperSize x0).bind fun t3 =>
 (spec_PseudoSum k x1 x2 (6:Int) t3.1.1).bind fun t4 =>
 (spec_l07Bytes x0 (0:Int)).bind fun t5 =>
 (spec_OnesSum k t5.1.1).bind fun t6 =>
 (spec_SumAdd t4.1.1 t6.1.1).bind fun t7 =>
 bif (decide ((IntKind.wrap .i64 ((65535:Int) - t7.1.1)) = (0:Int))) then
 bif (decide (x0.1 = (2:Int))) then
 some (((65535:Int), ()), ())
 else
 some (((IntKind.wrap .i64 ((65535:Int) - t7.1.1)), ()), ())
 else
 some (((IntKind.wrap .i64 ((65535:Int) - t7.1.1)), ()), ())
 else
 bif (decide (x0.1 = (2:Int))) then
 (spec_UpperSize x0).bind fun t8 =>
 (spec_PseudoSum k x1 x2 (17:Int) t8.1.1).bind fun t9 =>
 (spec_l07Bytes x0 (0:Int)).bind fun t10 =>
 (spec_OnesSum k t10.1.1).bind fun t11 =>
 (spec_SumAdd t9.1.1 t11.1.1).bind fun t12 =>
 bif (decide ((IntKind.wrap .i64 ((65535:Int) - t12.1.1)) = (0:Int))) then
 bif (decide (x0.1 = (2:Int))) then
 some (((65535:Int), ()), ())
 else
 some (((IntKind.wrap .i64 ((65535:Int) - t12.1.1)), ()), ())
 else
 some (((IntKind.wrap .i64 ((65535:Int) - t12.1.1)), ()), ())
 else
 bif (decide (x1.1 = (6:Int))) then
 (spec_UpperSize x0).bind fun t13 =>
 (spec_PseudoSum k x1 x2 (58:Int) t13.1.1).bind fun t14 =>
 (spec_l07Bytes x0 (0:Int)).bind fun t15 =>
 (spec_OnesSum k t15.1.1).bind fun t16 =>
 (spec_SumAdd t14.1.1 t16.1.1).bind fun t17 =>
 bif (decide ((IntKind.wrap .i64 ((65535:Int) - t17.1.1)) = (0:Int))) then
 bif (decide (x0.1 = (2:Int))) then
 some (((65535:Int), ()), ())
 else
 some (((IntKind.wrap .i64 ((65535:Int) - t17.1.1)), ()), ())
 else
 some (((IntKind.wrap .i64 ((65535:Int) - t17.1.1)), ()), ())
 else
 (spec_l07Bytes x0 (0:Int)).bind fun t18 =>
 (spec_OnesSum k t18.1.1).bind fun t19 =>
 (spec_SumAdd (0:Int) t19.1.1).bind fun t20 =>
 bif (decide ((IntKind.wrap .i64 ((65535:Int) - t20.1.1)) = (0:Int))) then
 bif (decide (x0.1 = (2:Int))) then
 some (((65535:Int), ()), ())
 else
 some (((IntKind.wrap .i64 ((65535:Int) - t20.1.1)), ()), ())
 else
 some (((IntKind.wrap .i64 ((65535:Int) - t20.1.1)), ()), ())
 else
 some (((0:Int), ()), ())
 else
 some (((-1:Int), ()), ())
def spec_UpperBytes (k : Nat) (x0 : D_Upper) (x1 : D_Addr) (x2 : D_Addr) : Option (((List Int) × Unit) × Unit) :=
 (spec_UpperSum k x0 x1 x2).bind fun t1 =>
 bif (decide (t1.1.1 < (0:Int))) then
 some ((([] : List Int), ()), ())
 else
 (spec_l07Bytes x0 t1.1.1).bind fun t2 =>
 some (t2.1, ())
def spec_UpperKind (x0 : Int) (x1 : Int) : Option ((Int × Unit) × Unit) :=
 (spec_l05In x0 (255:Int)).bind fun t1 =>
 bif (!(!t1.1.1)) then
 bif (!(decide (x1 = (4:Int)))) then
 bif (!(decide (x1 = (6:Int)))) then
 some (((-1:Int), ()), ())
 else
 bif (decide (x0 = (6:Int))) then
 some (((1:Int), ()), ())
 else
 bif (decide (x0 = (17:Int))) then
 some (((2:Int), ()), ())
 else
 bif (decide (x0 = (1:Int))) then
 bif (!(decide (x1 = (4:Int)))) then
 bif (decide (x0 = (58:Int))) then
 bif (decide (x1 = (6:Int))) then
 some (((3:Int), ()), ())
 else
 some (((0:Int), ()), ())
 else
 some (((0:Int), ()), ())
 else
 some (((3:Int), ()), ())
 else
 bif (decide (x0 = (58:Int))) then
 bif (decide (x1 = (6:Int))) then
 some (((3:Int), ()), ())
 else
 some (((0:Int), ()), ())
 else
 some (((0:Int), ()), ())
 else
 bif (decide (x0 = (6:Int))) then
 some (((1:Int), ()), ())
 else
 bif (decide (x0 = (17:Int))) then
 some (((2:Int), ()), ())
 else
 bif (decide (x0 = (1:Int))) then
 bif (!(decide (x1 = (4:Int)))) then
 bif (decide (x0 = (58:Int))) then
 bif (decide (x1 = (6:Int))) then
 some (((3:Int), ()), ())
 else
 some (((0:Int), ()), ())
 else
 some (((0:Int), ()), ())
 else
 some (((3:Int), ()), ())
 else
 bif (decide (x0 = (58:Int))) then
 bif (decide (x1 = (6:Int))) then
 some (((3:Int), ()), ())
 else
 some (((0:Int), ()), ())
 else
 some (((0:Int), ()), ())
 else
 some (((-1:Int), ()), ())
def spec_FourOk (x0 : D_Four) : Option ((Bool × Unit) × Unit) :=
 (spec_l05In x0.1 (63:Int)).bind fun t1 =>
 bif (!(!t1.1.1)) then
 (spec_l05In x0.2.1 (3:Int)).bind fun t2 =>
 bif (!(!t2.1.1)) then
 (spec_l05In x0.2.2.1 (65535:Int)).bind fun t3 =>
 bif (!(!t3.1.1)) then
 (spec_l05In x0.2.2.2.1 (7:Int)).bind fun t4 =>
 bif (!(!t4.1.1)) then
 (spec_l05In x0.2.2.2.2.1 (8191:Int)).bind fun t5 =>
 bif (!t5.1.1) then
 some ((false, ()), ())
 else
 (spec_l05In x0.2.2.2.2.2.1 (255:Int)).bind fun t6 =>
 bif (!(!t6.1.1)) then
 (spec_l05In x0.2.2.2.2.2.2.1 (255:Int)).bind fun t7 =>
 bif (!(!t7.1.1)) then
 bif (!(!(decide (x0.2.2.2.2.2.2.2.1.1 = (4:Int))))) then
 bif (!(!(decide (x0.2.2.2.2.2.2.2.2.1.1 = (4:Int))))) then
 (spec_AddrOk x0.2.2.2.2.2.2.2.1).bind fun t8 =>
 bif (!(!t8.1.1)) then
 (spec_AddrOk x0.2.2.2.2.2.2.2.2.1).bind fun t9 =>
 bif (!t9.1.1) then
 some ((false, ()), ())
 else
 bif (!(decide ((40:Int) < (((List.length x0.2.2.2.2.2.2.2.2.2.1) : Nat) : Int)))) then
 bif (!(decide ((Int.tmod (((List.length x0.2.2.2.2.2.2.2.2.2.1) : Nat) : Int) (4:Int)) = (0:Int)))) then
 some ((false, ()), ())
 else
 some (((decide ((((List.length x0.2.2.2.2.2.2.2.2.2.2.1) : Nat) : Int) ≤ (IntKind.wrap .i64 ((1480:Int) - (((List.length x0.2.2.2.2.2.2.2.2.2.1) : Nat) : Int))))), ()), ())
 else
 some ((false, ()), ())
 else
 some ((false, ()), ())
 else
 some ((false, ()), ())
 else
 some ((false, ()), ())
 else
 some ((false, ()), ())
 else
 some ((false, ()), ())
 else
 some ((false, ()), ())
 else
 some ((false, ()), ())
 else
 some ((false, ()), ())
 else
 some ((false, ()), ())
def spec_FourPiece (x0 : D_Four) : Option ((Bool × Unit) × Unit) :=
 (spec_FourOk x0).bind fun t1 =>
 bif t1.1.1 then
 bif (!(!(decide (x0.2.2.2.2.1 = (0:Int))))) then
 some (((decide ((Int.tmod x0.2.2.2.1 (2:Int)) = (1:Int))), ()), ())
 else
 some ((true, ()), ())
 else
 some ((false, ()), ())
def spec_l08NoSix (x0 : D_Six) : Option ((Bool × Unit) × Unit) :=
 bif (decide (x0.1 = (0:Int))) then
 bif (decide (x0.2.1 = (0:Int))) then
 bif (decide (x0.2.2.1 = (0:Int))) then
 bif (decide (x0.2.2.2.1 = (0:Int))) then
 bif ((decide (x0.2.2.2.2.1.1 = (0:Int))) && ((decide (x0.2.2.2.2.1.2.1 = (0:Int))) && ((decide (x0.2.2.2.2.1.2.2.1 = (0:Int))) && ((decide (x0.2.2.2.2.1.2.2.2.1 = (0:Int))) && ((decide (x0.2.2.2.2.1.2.2.2.2.1 = (0:Int))) && true))))) then
 bif ((decide (x0.2.2.2.2.2.1.1 = (0:Int))) && ((decide (x0.2.2.2.2.2.1.2.1 = (0:Int))) && ((decide (x0.2.2.2.2.2.1.2.2.1 = (0:Int))) && ((decide (x0.2.2.2.2.2.1.2.2.2.1 = (0:Int))) && ((decide (x0.2.2.2.2.2.1.2.2.2.2.1 = (0:Int))) && true))))) then
 bif (decide ((((List.length x0.2.2.2.2.2.2.1) : Nat) : Int) = (0:Int))) then
 some (((decide ((((List.length x0.2.2.2.2.2.2.2.1) : Nat) : Int) = (0:Int))), ()), ())
 else
 some ((false, ()), ())
 else
 some ((false, ()), ())
 else
 some ((false, ()), ())
 else
 some ((false, ()), ())
 else
 some ((false, ()), ())
 else
 some ((false, ()), ())
 else
 some ((false, ()), ())
def spec_l05Head (x0 : D_Four) (x1 : Int) : Option (((List Int) × Unit) × Unit) :=
 (spec_Put16 (IntKind.wrap .i64 ((IntKind.wrap .i64 ((20:Int) + (((List.length x0.2.2.2.2.2.2.2.2.2.1) : Nat) : Int))) + (((List.length x0.2.2.2.2.2.2.2.2.2.2.1) : Nat) : Int)))).bind fun t1 =>
 bif (decide ((((2:Nat) + (List.length t1.1.1)) * 1) ≤ (1099511627776:Nat))) then
 (spec_Put16 x0.2.2.1).bind fun t2 =>
 bif (decide ((((List.length (([(IntKind.wrap .u8 (IntKind.wrap .i64 ((69:Int) + (IntKind.wrap .i64 (Int.tdiv (((List.length x0.2.2.2.2.2.2.2.2.2.1) : Nat) : Int) (4:Int)))))), (IntKind.wrap .u8 (IntKind.wrap .i64 ((IntKind.wrap .i64 ((4:Int) * x0.1)) + x0.2.1)))] : List Int) ++ t1.1.1)) + (List.length t2.1.1)) * 1) ≤ (1099511627776:Nat))) then
 (spec_Put16 (IntKind.wrap .i64 ((IntKind.wrap .i64 ((8192:Int) * x0.2.2.2.1)) + x0.2.2.2.2.1))).bind fun t3 =>
 bif (decide ((((List.length ((([(IntKind.wrap .u8 (IntKind.wrap .i64 ((69:Int) + (IntKind.wrap .i64 (Int.tdiv (((List.length x0.2.2.2.2.2.2.2.2.2.1) : Nat) : Int) (4:Int)))))), (IntKind.wrap .u8 (IntKind.wrap .i64 ((IntKind.wrap .i64 ((4:Int) * x0.1)) + x0.2.1)))] : List Int) ++ t1.1.1) ++ t2.1.1)) + (List.length t3.1.1)) * 1) ≤ (1099511627776:Nat))) then
 bif (decide ((((List.length (((([(IntKind.wrap .u8 (IntKind.wrap .i64 ((69:Int) + (IntKind.wrap .i64 (Int.tdiv (((List.length x0.2.2.2.2.2.2.2.2.2.1) : Nat) : Int) (4:Int)))))), (IntKind.wrap .u8 (IntKind.wrap .i64 ((IntKind.wrap .i64 ((4:Int) * x0.1)) + x0.2.1)))] : List Int) ++ t1.1.1) ++ t2.1.1) ++ t3.1.1)) + (2:Nat)) * 1) ≤ (1099511627776:Nat))) then
 (spec_Put16 x1).bind fun t4 =>
 bif (decide ((((List.length ((((([(IntKind.wrap .u8 (IntKind.wrap .i64 ((69:Int) + (IntKind.wrap .i64 (Int.tdiv (((List.length x0.2.2.2.2.2.2.2.2.2.1) : Nat) : Int) (4:Int)))))), (IntKind.wrap .u8 (IntKind.wrap .i64 ((IntKind.wrap .i64 ((4:Int) * x0.1)) + x0.2.1)))] : List Int) ++ t1.1.1) ++ t2.1.1) ++ t3.1.1) ++ ([(IntKind.wrap .u8 x0.2.2.2.2.2.1), (IntKind.wrap .u8 x0.2.2.2.2.2.2.1)] : List Int))) + (List.length t4.1.1)) * 1) ≤ (1099511627776:Nat))) then
 (spec_AddrBytes x0.2.2.2.2.2.2.2.1).bind fun t5 =>
 bif (decide ((((List.length (((((([(IntKind.wrap .u8 (IntKind.wrap .i64 ((69:Int) + (IntKind.wrap .i64 (Int.tdiv (((List.length x0.2.2.2.2.2.2.2.2.2.1) : Nat) : Int) (4:Int)))))), (IntKind.wrap .u8 (IntKind.wrap .i64 ((IntKind.wrap .i64 ((4:Int) * x0.1)) + x0.2.1)))] : List Int) ++ t1.1.1) ++ t2.1.1) ++ t3.1.1) ++ ([(IntKind.wrap .u8 x0.2.2.2.2.2.1), (IntKind.wrap .u8 x0.2.2.2.2.2.2.1)] : List Int)) ++ t4.1.1)) + (List.length t5.1.1)) * 1) ≤ (1099511627776:Nat))) then
 (spec_AddrBytes x0.2.2.2.2.2.2.2.2.1).bind fun t6 =>
 bif (decide ((((List.length ((((((([(IntKind.wrap .u8 (IntKind.wrap .i64 ((69:Int) + (IntKind.wrap .i64 (Int.tdiv (((List.length x0.2.2.2.2.2.2.2.2.2.1) : Nat) : Int) (4:Int)))))), (IntKind.wrap .u8 (IntKind.wrap .i64 ((IntKind.wrap .i64 ((4:Int) * x0.1)) + x0.2.1)))] : List Int) ++ t1.1.1) ++ t2.1.1) ++ t3.1.1) ++ ([(IntKind.wrap .u8 x0.2.2.2.2.2.1), (IntKind.wrap .u8 x0.2.2.2.2.2.2.1)] : List Int)) ++ t4.1.1) ++ t5.1.1)) + (List.length t6.1.1)) * 1) ≤ (1099511627776:Nat))) then
 bif (decide ((((List.length (((((((([(IntKind.wrap .u8 (IntKind.wrap .i64 ((69:Int) + (IntKind.wrap .i64 (Int.tdiv (((List.length x0.2.2.2.2.2.2.2.2.2.1) : Nat) : Int) (4:Int)))))), (IntKind.wrap .u8 (IntKind.wrap .i64 ((IntKind.wrap .i64 ((4:Int) * x0.1)) + x0.2.1)))] : List Int) ++ t1.1.1) ++ t2.1.1) ++ t3.1.1) ++ ([(IntKind.wrap .u8 x0.2.2.2.2.2.1), (IntKind.wrap .u8 x0.2.2.2.2.2.2.1)] : List Int)) ++ t4.1.1) ++ t5.1.1) ++ t6.1.1)) + (List.length x0.2.2.2.2.2.2.2.2.2.1)) * 1) ≤ (1099511627776:Nat))) then
 some ((((((((((([(IntKind.wrap .u8 (IntKind.wrap .i64 ((69:Int) + (IntKind.wrap .i64 (Int.tdiv (((List.length x0.2.2.2.2.2.2.2.2.2.1) : Nat) : Int) (4:Int)))))), (IntKind.wrap .u8 (IntKind.wrap .i64 ((IntKind.wrap .i64 ((4:Int) * x0.1)) + x0.2.1)))] : List Int) ++ t1.1.1) ++ t2.1.1) ++ t3.1.1) ++ ([(IntKind.wrap .u8 x0.2.2.2.2.2.1), (IntKind.wrap .u8 x0.2.2.2.2.2.2.1)] : List Int)) ++ t4.1.1) ++ t5.1.1) ++ t6.1.1) ++ x0.2.2.2.2.2.2.2.2.2.1), ()), ())
 else none
 else none
 else none
 else none
 else none
 else none
 else none
 else none
def spec_Checksum (k : Nat) (x0 : (List Int)) : Option ((Int × Unit) × Unit) :=
 (spec_OnesSum k x0).bind fun t1 =>
 bif (decide (t1.1.1 < (0:Int))) then
 some (((-1:Int), ()), ())
 else
 some (((IntKind.wrap .i64 ((65535:Int) - t1.1.1)), ()), ())
def spec_HeadSum (k : Nat) (x0 : D_Four) : Option ((Int × Unit) × Unit) :=
 (spec_FourOk x0).bind fun t1 =>
 bif (!t1.1.1) then
 some (((-1:Int), ()), ())
 else
 (spec_l05Head x0 (0:Int)).bind fun t2 =>
 (spec_Checksum k t2.1.1).bind fun t3 =>
 some (t3.1, ())
def spec_FourBytes (k : Nat) (x0 : D_Four) : Option (((List Int) × Unit) × Unit) :=
 (spec_FourOk x0).bind fun t1 =>
 bif (!t1.1.1) then
 some ((([] : List Int), ()), ())
 else
 (spec_HeadSum k x0).bind fun t2 =>
 (spec_l05Head x0 t2.1.1).bind fun t3 =>
 bif (decide ((((List.length t3.1.1) + (List.length x0.2.2.2.2.2.2.2.2.2.2.1)) * 1) ≤ (1099511627776:Nat))) then
 some (((t3.1.1 ++ x0.2.2.2.2.2.2.2.2.2.2.1), ()), ())
 else none
def spec_l08NoFour (x0 : D_Four) : Option ((Bool × Unit) × Unit) :=
 bif (decide (x0.1 = (0:Int))) then
 bif (decide (x0.2.1 = (0:Int))) then
 bif (decide (x0.2.2.1 = (0:Int))) then
 bif (decide (x0.2.2.2.1 = (0:Int))) then
 bif (decide (x0.2.2.2.2.1 = (0:Int))) then
 bif (decide (x0.2.2.2.2.2.1 = (0:Int))) then
 bif (decide (x0.2.2.2.2.2.2.1 = (0:Int))) then
 bif ((decide (x0.2.2.2.2.2.2.2.1.1 = (0:Int))) && ((decide (x0.2.2.2.2.2.2.2.1.2.1 = (0:Int))) && ((decide (x0.2.2.2.2.2.2.2.1.2.2.1 = (0:Int))) && ((decide (x0.2.2.2.2.2.2.2.1.2.2.2.1 = (0:Int))) && ((decide (x0.2.2.2.2.2.2.2.1.2.2.2.2.1 = (0:Int))) && true))))) then
 bif ((decide (x0.2.2.2.2.2.2.2.2.1.1 = (0:Int))) && ((decide (x0.2.2.2.2.2.2.2.2.1.2.1 = (0:Int))) && ((decide (x0.2.2.2.2.2.2.2.2.1.2.2.1 = (0:Int))) && ((decide (x0.2.2.2.2.2.2.2.2.1.2.2.2.1 = (0:Int))) && ((decide (x0.2.2.2.2.2.2.2.2.1.2.2.2.2.1 = (0:Int))) && true))))) then
 bif (decide ((((List.length x0.2.2.2.2.2.2.2.2.2.1) : Nat) : Int) = (0:Int))) then
 some (((decide ((((List.length x0.2.2.2.2.2.2.2.2.2.2.1) : Nat) : Int) = (0:Int))), ()), ())
 else
 some ((false, ()), ())
 else
 some ((false, ()), ())
 else
 some ((false, ()), ())
 else
 some ((false, ()), ())
 else
 some ((false, ()), ())
 else
 some ((false, ()), ())
 else
 some ((false, ()), ())
 else
 some ((false, ()), ())
 else
 some ((false, ()), ())
 else
 some ((false, ()), ())
def spec_l06Inner (x0 : Int) : Option ((Bool × Unit) × Unit) :=
 bif (!(decide (x0 = (0:Int)))) then
 bif (!(decide (x0 = (43:Int)))) then
 some (((decide (x0 = (60:Int))), ()), ())
 else
 some ((true, ()), ())
 else
 some ((true, ()), ())
def spec_SixOk_s7 (rec : (Unit × (D_Six × (Int × (Int × Unit)))) → Option ((Unit × (Bool × Unit)) ⊕ (Unit × (D_Six × (Int × Unit))))) (v : (Unit × (D_Six × (Int × (Int × Unit))))) : Option ((Unit × (Bool × Unit)) ⊕ (Unit × (D_Six × (Int × Unit)))) :=
 bif (decide (v.2.2.2.1 < (((List.length v.2.1.2.2.2.2.2.2.1) : Nat) : Int))) then
 bif ((decide ((0:Int) ≤ v.2.2.2.1)) && (decide (v.2.2.2.1 < (((List.length v.2.1.2.2.2.2.2.2.1) : Nat) : Int)))) then
 bif (decide ((Int.toNat v.2.2.2.1) < (List.length v.2.1.2.2.2.2.2.2.1))) then
 bif ((decide ((0:Int) ≤ v.2.2.2.1)) && (decide (v.2.2.2.1 < (((List.length v.2.1.2.2.2.2.2.2.1) : Nat) : Int)))) then
 bif (decide ((Int.toNat v.2.2.2.1) < (List.length v.2.1.2.2.2.2.2.2.1))) then
 (spec_l06Inner (List.getD v.2.1.2.2.2.2.2.2.1 (Int.toNat v.2.2.2.1) z_Ext).1).bind fun t8 =>
 bif (!(!t8.1.1)) then
 bif ((decide ((0:Int) ≤ v.2.2.2.1)) && (decide (v.2.2.2.1 < (((List.length v.2.1.2.2.2.2.2.2.1) : Nat) : Int)))) then
 bif (decide ((Int.toNat v.2.2.2.1) < (List.length v.2.1.2.2.2.2.2.2.1))) then
 bif (decide ((List.getD v.2.1.2.2.2.2.2.2.1 (Int.toNat v.2.2.2.1) z_Ext).1 = (0:Int))) then
 bif (!(decide ((0:Int) < v.2.2.2.1))) then
 bif (!(decide ((62:Int) < (((List.length (List.getD v.2.1.2.2.2.2.2.2.1 (Int.toNat v.2.2.2.1) z_Ext).2.1) : Nat) : Int)))) then
 bif (!(decide ((Int.tmod (((List.length (List.getD v.2.1.2.2.2.2.2.2.1 (Int.toNat v.2.2.2.1) z_Ext).2.1) : Nat) : Int) (8:Int)) = (6:Int)))) then
 some (Sum.inl ((), false, ()))
 else
 rec ((), v.2.1, (IntKind.wrap .i64 ((IntKind.wrap .i64 (v.2.2.1 - (((List.length (List.getD v.2.1.2.2.2.2.2.2.1 (Int.toNat v.2.2.2.1) z_Ext).2.1) : Nat) : Int))) - (2:Int))), (IntKind.wrap .i64 (v.2.2.2.1 + (1:Int))), ())
 else
 some (Sum.inl ((), false, ()))
 else
 some (Sum.inl ((), false, ()))
 else
 bif (!(decide ((62:Int) < (((List.length (List.getD v.2.1.2.2.2.2.2.2.1 (Int.toNat v.2.2.2.1) z_Ext).2.1) : Nat) : Int)))) then
 bif (!(decide ((Int.tmod (((List.length (List.getD v.2.1.2.2.2.2.2.2.1 (Int.toNat v.2.2.2.1) z_Ext).2.1) : Nat) : Int) (8:Int)) = (6:Int)))) then
 some (Sum.inl ((), false, ()))
 else
 rec ((), v.2.1, (IntKind.wrap .i64 ((IntKind.wrap .i64 (v.2.2.1 - (((List.length (List.getD v.2.1.2.2.2.2.2.2.1 (Int.toNat v.2.2.2.1) z_Ext).2.1) : Nat) : Int))) - (2:Int))), (IntKind.wrap .i64 (v.2.2.2.1 + (1:Int))), ())
 else
 some (Sum.inl ((), false, ()))
 else none
 else none
 else
 some (Sum.inl ((), false, ()))
 else none
 else none
 else none
 else none
 else
 some (Sum.inr ((), v.2.1, v.2.2.1, ()))
def spec_SixOk (k : Nat) (x0 : D_Six) : Option ((Bool × Unit) × Unit) :=
 (spec_l05In x0.1 (255:Int)).bind fun t1 =>
 bif (!(!t1.1.1)) then
 (spec_l05In x0.2.1 (1048575:Int)).bind fun t2 =>
 bif (!(!t2.1.1)) then
 (spec_l05In x0.2.2.1 (255:Int)).bind fun t3 =>
 bif (!(!t3.1.1)) then
 (spec_l05In x0.2.2.2.1 (255:Int)).bind fun t4 =>
 bif (!(!t4.1.1)) then
 (spec_l06Inner x0.2.2.2.1).bind fun t5 =>
 bif t5.1.1 then
 some ((false, ()), ())
 else
 bif (!(!(decide (x0.2.2.2.2.1.1 = (6:Int))))) then
 bif (!(!(decide (x0.2.2.2.2.2.1.1 = (6:Int))))) then
 (spec_AddrOk x0.2.2.2.2.1).bind fun t6 =>
 bif (!(!t6.1.1)) then
 (spec_AddrOk x0.2.2.2.2.2.1).bind fun t7 =>
 bif (!(!t7.1.1)) then
 bif (decide ((3:Int) < (((List.length x0.2.2.2.2.2.2.1) : Nat) : Int))) then
 some ((false, ()), ())
 else
 (iter (spec_SixOk_s7) k ((), x0, (1460:Int), (0:Int), ())).bind fun o8 =>
 Sum.elim (fun a9 =>
 some (a9.2, ()))
 (fun b10 =>
 some (((decide ((((List.length b10.2.1.2.2.2.2.2.2.2.1) : Nat) : Int) ≤ b10.2.2.1)), ()), ())) o8
 else
 some ((false, ()), ())
 else
 some ((false, ()), ())
 else
 some ((false, ()), ())
 else
 some ((false, ()), ())
 else
 some ((false, ()), ())
 else
 some ((false, ()), ())
 else
 some ((false, ()), ())
 else
 some ((false, ()), ())
def spec_ExtsSize_s5 (rec : (Unit × (D_Six × (Int × (Int × Unit)))) → Option ((Unit × (Int × Unit)))) (v : (Unit × (D_Six × (Int × (Int × Unit))))) : Option ((Unit × (Int × Unit))) :=
 bif (decide (v.2.2.2.1 < (((List.length v.2.1.2.2.2.2.2.2.1) : Nat) : Int))) then
 bif ((decide ((0:Int) ≤ v.2.2.2.1)) && (decide (v.2.2.2.1 < (((List.length v.2.1.2.2.2.2.2.2.1) : Nat) : Int)))) then
 bif (decide ((Int.toNat v.2.2.2.1) < (List.length v.2.1.2.2.2.2.2.2.1))) then
 rec ((), v.2.1, (IntKind.wrap .i64 ((IntKind.wrap .i64 (v.2.2.1 + (2:Int))) + (((List.length (List.getD v.2.1.2.2.2.2.2.2.1 (Int.toNat v.2.2.2.1) z_Ext).2.1) : Nat) : Int))), (IntKind.wrap .i64 (v.2.2.2.1 + (1:Int))), ())
 else none
 else none
 else
 some ((), v.2.2.1, ())
def spec_ExtsSize (k : Nat) (x0 : D_Six) : Option ((Int × Unit) × Unit) :=
 (spec_SixOk k x0).bind fun t1 =>
 bif (!t1.1.1) then
 some (((-1:Int), ()), ())
 else
 (iter (spec_ExtsSize_s5) k ((), x0, (0:Int), (0:Int), ())).bind fun o2 =>
 some (o2.2, ())
def spec_l06Next (x0 : D_Six) (x1 : Int) : Option ((Int × Unit) × Unit) :=
 bif (decide (x1 < (((List.length x0.2.2.2.2.2.2.1) : Nat) : Int))) then
 bif ((decide ((0:Int) ≤ x1)) && (decide (x1 < (((List.length x0.2.2.2.2.2.2.1) : Nat) : Int)))) then
 bif (decide ((Int.toNat x1) < (List.length x0.2.2.2.2.2.2.1))) then
 some (((IntKind.wrap .u8 (List.getD x0.2.2.2.2.2.2.1 (Int.toNat x1) z_Ext).1), ()), ())
 else none
 else none
 else
 some (((IntKind.wrap .u8 x0.2.2.2.1), ()), ())
def spec_SixBytes_s9 (rec : (Unit × (D_Six × ((List Int) × (Int × Unit)))) → Option ((Unit × (D_Six × ((List Int) × Unit))))) (v : (Unit × (D_Six × ((List Int) × (Int × Unit))))) : Option ((Unit × (D_Six × ((List Int) × Unit)))) :=
 bif (decide (v.2.2.2.1 < (((List.length v.2.1.2.2.2.2.2.2.1) : Nat) : Int))) then
 (spec_l06Next v.2.1 (IntKind.wrap .i64 (v.2.2.2.1 + (1:Int)))).bind fun t8 =>
 bif ((decide ((0:Int) ≤ v.2.2.2.1)) && (decide (v.2.2.2.1 < (((List.length v.2.1.2.2.2.2.2.2.1) : Nat) : Int)))) then
 bif (decide ((Int.toNat v.2.2.2.1) < (List.length v.2.1.2.2.2.2.2.2.1))) then
 bif (decide ((((List.length v.2.2.1) + (2:Nat)) * 1) ≤ (1099511627776:Nat))) then
 bif ((decide ((0:Int) ≤ v.2.2.2.1)) && (decide (v.2.2.2.1 < (((List.length v.2.1.2.2.2.2.2.2.1) : Nat) : Int)))) then
 bif (decide ((Int.toNat v.2.2.2.1) < (List.length v.2.1.2.2.2.2.2.2.1))) then
 bif (decide ((((List.length (v.2.2.1 ++ ([t8.1.1, (IntKind.wrap .u8 (IntKind.wrap .i64 ((IntKind.wrap .i64 (Int.tdiv (IntKind.wrap .i64 ((2:Int) + (((List.length (List.getD v.2.1.2.2.2.2.2.2.1 (Int.toNat v.2.2.2.1) z_Ext).2.1) : Nat) : Int))) (8:Int))) - (1:Int))))] : List Int))) + (List.length (List.getD v.2.1.2.2.2.2.2.2.1 (Int.toNat v.2.2.2.1) z_Ext).2.1)) * 1) ≤ (1099511627776:Nat))) then
 rec ((), v.2.1, ((v.2.2.1 ++ ([t8.1.1, (IntKind.wrap .u8 (IntKind.wrap .i64 ((IntKind.wrap .i64 (Int.tdiv (IntKind.wrap .i64 ((2:Int) + (((List.length (List.getD v.2.1.2.2.2.2.2.2.1 (Int.toNat v.2.2.2.1) z_Ext).2.1) : Nat) : Int))) (8:Int))) - (1:Int))))] : List Int)) ++ (List.getD v.2.1.2.2.2.2.2.2.1 (Int.toNat v.2.2.2.1) z_Ext).2.1), (IntKind.wrap .i64 (v.2.2.2.1 + (1:Int))), ())
 else none
 else none
 else none
 else none
 else none
 else none
 else
 some ((), v.2.1, v.2.2.1, ())
def spec_SixBytes (k : Nat) (x0 : D_Six) : Option (((List Int) × Unit) × Unit) :=
 (spec_SixOk k x0).bind fun t1 =>
 bif (!t1.1.1) then
 some ((([] : List Int), ()), ())
 else
 (spec_Put32 (IntKind.wrap .i64 ((IntKind.wrap .i64 ((1610612736:Int) + (IntKind.wrap .i64 (x0.1 * (1048576:Int))))) + x0.2.1))).bind fun t2 =>
 (spec_ExtsSize k x0).bind fun t3 =>
 (spec_Put16 (IntKind.wrap .i64 (t3.1.1 + (((List.length x0.2.2.2.2.2.2.2.1) : Nat) : Int)))).bind fun t4 =>
 bif (decide ((((List.length t2.1.1) + (List.length t4.1.1)) * 1) ≤ (1099511627776:Nat))) then
 (spec_l06Next x0 (0:Int)).bind fun t5 =>
 bif (decide ((((List.length (t2.1.1 ++ t4.1.1)) + (2:Nat)) * 1) ≤ (1099511627776:Nat))) then
 (spec_AddrBytes x0.2.2.2.2.1).bind fun t6 =>
 bif (decide ((((List.length ((t2.1.1 ++ t4.1.1) ++ ([t5.1.1, (IntKind.wrap .u8 x0.2.2.1)] : List Int))) + (List.length t6.1.1)) * 1) ≤ (1099511627776:Nat))) then
 (spec_AddrBytes x0.2.2.2.2.2.1).bind fun t7 =>
 bif (decide ((((List.length (((t2.1.1 ++ t4.1.1) ++ ([t5.1.1, (IntKind.wrap .u8 x0.2.2.1)] : List Int)) ++ t6.1.1)) + (List.length t7.1.1)) * 1) ≤ (1099511627776:Nat))) then
 (iter (spec_SixBytes_s9) k ((), x0, ((((t2.1.1 ++ t4.1.1) ++ ([t5.1.1, (IntKind.wrap .u8 x0.2.2.1)] : List Int)) ++ t6.1.1) ++ t7.1.1), (0:Int), ())).bind fun o8 =>
 bif (decide ((((List.length o8.2.2.1) + (List.length o8.2.1.2.2.2.2.2.2.2.1)) * 1) ≤ (1099511627776:Nat))) then
 some (((o8.2.2.1 ++ o8.2.1.2.2.2.2.2.2.2.1), ()), ())
 else none
 else none
 else none
 else none
 else none
def spec_EtherOk (x0 : D_Ether) : Option ((Bool × Unit) × Unit) :=
 bif (!(decide (x0.1 < (0:Int)))) then
 bif (!(decide ((281474976710655:Int) < x0.1))) then
 bif (!(decide (x0.2.1 < (0:Int)))) then
 bif (!(decide ((281474976710655:Int) < x0.2.1))) then
 bif (!(decide (x0.2.2.1 < (-1:Int)))) then
 bif (decide ((65535:Int) < x0.2.2.1)) then
 some ((false, ()), ())
 else
 bif (decide ((0:Int) ≤ x0.2.2.1)) then
 bif (decide ((1536:Int) ≤ x0.2.2.2.1)) then
 bif (decide (x0.2.2.2.1 ≤ (65535:Int))) then
 bif (!(decide (x0.2.2.2.1 = (33024:Int)))) then
 some (((decide ((((List.length x0.2.2.2.2.1) : Nat) : Int) ≤ (1582:Int))), ()), ())
 else
 some ((false, ()), ())
 else
 some ((false, ()), ())
 else
 some ((false, ()), ())
 else
 bif (decide ((1536:Int) ≤ x0.2.2.2.1)) then
 bif (decide (x0.2.2.2.1 ≤ (65535:Int))) then
 bif (!(decide (x0.2.2.2.1 = (33024:Int)))) then
 some (((decide ((((List.length x0.2.2.2.2.1) : Nat) : Int) ≤ (1586:Int))), ()), ())
 else
 some ((false, ()), ())
 else
 some ((false, ()), ())
 else
 some ((false, ()), ())
 else
 some ((false, ()), ())
 else
 some ((false, ()), ())
 else
 some ((false, ()), ())
 else
 some ((false, ()), ())
 else
 some ((false, ()), ())
def spec_l04Mac (x0 : Int) : Option (((List Int) × Unit) × Unit) :=
 (spec_Put16 (IntKind.wrap .i64 (Int.tdiv x0 (4294967296:Int)))).bind fun t1 =>
 (spec_Put32 (Int.tmod x0 (4294967296:Int))).bind fun t2 =>
 bif (decide ((((List.length t1.1.1) + (List.length t2.1.1)) * 1) ≤ (1099511627776:Nat))) then
 some (((t1.1.1 ++ t2.1.1), ()), ())
 else none
def spec_EtherBytes (x0 : D_Ether) : Option (((List Int) × Unit) × Unit) :=
 (spec_EtherOk x0).bind fun t1 =>
 bif (!t1.1.1) then
 some ((([] : List Int), ()), ())
 else
 (spec_l04Mac x0.1).bind fun t2 =>
 (spec_l04Mac x0.2.1).bind fun t3 =>
 bif (decide ((((List.length t2.1.1) + (List.length t3.1.1)) * 1) ≤ (1099511627776:Nat))) then
 bif (decide ((0:Int) ≤ x0.2.2.1)) then
 (spec_Put16 (33024:Int)).bind fun t4 =>
 bif (decide ((((List.length (t2.1.1 ++ t3.1.1)) + (List.length t4.1.1)) * 1) ≤ (1099511627776:Nat))) then
 (spec_Put16 x0.2.2.1).bind fun t5 =>
 bif (decide ((((List.length ((t2.1.1 ++ t3.1.1) ++ t4.1.1)) + (List.length t5.1.1)) * 1) ≤ (1099511627776:Nat))) then
 (spec_Put16 x0.2.2.2.1).bind fun t6 =>
 bif (decide ((((List.length (((t2.1.1 ++ t3.1.1) ++ t4.1.1) ++ t5.1.1)) + (List.length t6.1.1)) * 1) ≤ (1099511627776:Nat))) then
 bif (decide ((((List.length ((((t2.1.1 ++ t3.1.1) ++ t4.1.1) ++ t5.1.1) ++ t6.1.1)) + (List.length x0.2.2.2.2.1)) * 1) ≤ (1099511627776:Nat))) then
 some (((((((t2.1.1 ++ t3.1.1) ++ t4.1.1) ++ t5.1.1) ++ t6.1.1) ++ x0.2.2.2.2.1), ()), ())
 else none
 else none
 else none
 else none
 else
 (spec_Put16 x0.2.2.2.1).bind fun t7 =>
 bif (decide ((((List.length (t2.1.1 ++ t3.1.1)) + (List.length t7.1.1)) * 1) ≤ (1099511627776:Nat))) then
 bif (decide ((((List.length ((t2.1.1 ++ t3.1.1) ++ t7.1.1)) + (List.length x0.2.2.2.2.1)) * 1) ≤ (1099511627776:Nat))) then
 some (((((t2.1.1 ++ t3.1.1) ++ t7.1.1) ++ x0.2.2.2.2.1), ()), ())
 else none
 else none
 else none
abbrev spec_PacketBytes_j1 (k : Nat) (x0 : D_Packet) (t6 : (((List Int) × Unit) × Unit)) : Option (((List Int) × Unit) × Unit) :=
 (spec_FourBytes k (x0.2.2.1.1, x0.2.2.1.2.1, x0.2.2.1.2.2.1, x0.2.2.1.2.2.2.1, x0.2.2.1.2.2.2.2.1, x0.2.2.1.2.2.2.2.2.1, x0.2.2.1.2.2.2.2.2.2.1, x0.2.2.1.2.2.2.2.2.2.2.1, x0.2.2.1.2.2.2.2.2.2.2.2.1, x0.2.2.1.2.2.2.2.2.2.2.2.2.1, t6.1)).bind fun t11 =>
 bif (decide ((((List.length t11.1.1) + (List.length x0.2.2.2.2.2.1)) * 1) ≤ (1099511627776:Nat))) then
 (spec_EtherOk (x0.2.1.1, x0.2.1.2.1, x0.2.1.2.2.1, x0.2.1.2.2.2.1, (t11.1.1 ++ x0.2.2.2.2.2.1), ())).bind fun t12 =>
 bif (!t12.1.1) then
 some ((([] : List Int), ()), ())
 else
 (spec_EtherBytes (x0.2.1.1, x0.2.1.2.1, x0.2.1.2.2.1, x0.2.1.2.2.2.1, (t11.1.1 ++ x0.2.2.2.2.2.1), ())).bind fun t13 =>
 some (t13.1, ())
 else none
abbrev spec_PacketBytes_j0 (k : Nat) (x0 : D_Packet) : Option (((List Int) × Unit) × Unit) :=
 bif (!(!(decide ((((List.length x0.2.1.2.2.2.2.1) : Nat) : Int) = (0:Int))))) then
 bif (!(!(decide ((((List.length x0.2.2.1.2.2.2.2.2.2.2.2.2.2.1) : Nat) : Int) = (0:Int))))) then
 bif (!(decide ((((List.length x0.2.2.2.1.2.2.2.2.2.2.2.1) : Nat) : Int) = (0:Int)))) then
 some ((([] : List Int), ()), ())
 else
 (spec_l08Src x0).bind fun t1 =>
 (spec_l08Dst x0).bind fun t2 =>
 (spec_UpperSum k x0.2.2.2.2.1 t1.1.1 t2.1.1).bind fun t3 =>
 bif (decide (t3.1.1 < (0:Int))) then
 some ((([] : List Int), ()), ())
 else
 (spec_l08Src x0).bind fun t4 =>
 (spec_l08Dst x0).bind fun t5 =>
 (spec_UpperBytes k x0.2.2.2.2.1 t4.1.1 t5.1.1).bind fun t6 =>
 bif (decide (x0.1 = (4:Int))) then
 (spec_UpperKind x0.2.2.1.2.2.2.2.2.2.1 (4:Int)).bind fun t7 =>
 (spec_FourPiece (x0.2.2.1.1, x0.2.2.1.2.1, x0.2.2.1.2.2.1, x0.2.2.1.2.2.2.1, x0.2.2.1.2.2.2.2.1, x0.2.2.1.2.2.2.2.2.1, x0.2.2.1.2.2.2.2.2.2.1, x0.2.2.1.2.2.2.2.2.2.2.1, x0.2.2.1.2.2.2.2.2.2.2.2.1, x0.2.2.1.2.2.2.2.2.2.2.2.2.1, t6.1)).bind fun t8 =>
 bif t8.1.1 then
 (spec_l08NoSix x0.2.2.2.1).bind fun t9 =>
 bif (!(!t9.1.1)) then
 bif (!(!(decide (x0.2.1.2.2.2.1 = (2048:Int))))) then
 (spec_FourOk (x0.2.2.1.1, x0.2.2.1.2.1, x0.2.2.1.2.2.1, x0.2.2.1.2.2.2.1, x0.2.2.1.2.2.2.2.1, x0.2.2.1.2.2.2.2.2.1, x0.2.2.1.2.2.2.2.2.2.1, x0.2.2.1.2.2.2.2.2.2.2.1, x0.2.2.1.2.2.2.2.2.2.2.2.1, x0.2.2.1.2.2.2.2.2.2.2.2.2.1, t6.1)).bind fun t10 =>
 bif (!(!t10.1.1)) then
 bif (!(decide (x0.2.2.2.2.1.1 = (0:Int)))) then
 some ((([] : List Int), ()), ())
 else
 spec_PacketBytes_j1 k x0 t6
 else
 some ((([] : List Int), ()), ())
 else
 some ((([] : List Int), ()), ())
 else
 some ((([] : List Int), ()), ())
 else
 (spec_l08NoSix x0.2.2.2.1).bind fun t14 =>
 bif (!(!t14.1.1)) then
 bif (!(!(decide (x0.2.1.2.2.2.1 = (2048:Int))))) then
 (spec_FourOk (x0.2.2.1.1, x0.2.2.1.2.1, x0.2.2.1.2.2.1, x0.2.2.1.2.2.2.1, x0.2.2.1.2.2.2.2.1, x0.2.2.1.2.2.2.2.2.1, x0.2.2.1.2.2.2.2.2.2.1, x0.2.2.1.2.2.2.2.2.2.2.1, x0.2.2.1.2.2.2.2.2.2.2.2.1, x0.2.2.1.2.2.2.2.2.2.2.2.2.1, t6.1)).bind fun t15 =>
 bif (!(!t15.1.1)) then
 bif (!(decide (x0.2.2.2.2.1.1 = t7.1.1))) then
 some ((([] : List Int), ()), ())
 else
 spec_PacketBytes_j1 k x0 t6
 else
 some ((([] : List Int), ()), ())
 else
 some ((([] : List Int), ()), ())
 else
 some ((([] : List Int), ()), ())
 else
 (spec_l08NoFour x0.2.2.1).bind fun t19 =>
 bif (!(!t19.1.1)) then
 bif (!(!(decide (x0.2.1.2.2.2.1 = (34525:Int))))) then
 (spec_SixOk k (x0.2.2.2.1.1, x0.2.2.2.1.2.1, x0.2.2.2.1.2.2.1, x0.2.2.2.1.2.2.2.1, x0.2.2.2.1.2.2.2.2.1, x0.2.2.2.1.2.2.2.2.2.1, x0.2.2.2.1.2.2.2.2.2.2.1, t6.1)).bind fun t20 =>
 bif (!(!t20.1.1)) then
 (spec_UpperKind x0.2.2.2.1.2.2.2.1 (6:Int)).bind fun t21 =>
 bif (!(decide (x0.2.2.2.2.1.1 = t21.1.1))) then
 some ((([] : List Int), ()), ())
 else
 (spec_SixBytes k (x0.2.2.2.1.1, x0.2.2.2.1.2.1, x0.2.2.2.1.2.2.1, x0.2.2.2.1.2.2.2.1, x0.2.2.2.1.2.2.2.2.1, x0.2.2.2.1.2.2.2.2.2.1, x0.2.2.2.1.2.2.2.2.2.2.1, t6.1)).bind fun t22 =>
 bif (decide ((((List.length t22.1.1) + (List.length x0.2.2.2.2.2.1)) * 1) ≤ (1099511627776:Nat))) then
 (spec_EtherOk (x0.2.1.1, x0.2.1.2.1, x0.2.1.2.2.1, x0.2.1.2.2.2.1, (t22.1.1 ++ x0.2.2.2.2.2.1), ())).bind fun t23 =>
 bif (!t23.1.1) then
 some ((([] : List Int), ()), ())
 else
 (spec_EtherBytes (x0.2.1.1, x0.2.1.2.1, x0.2.1.2.2.1, x0.2.1.2.2.2.1, (t22.1.1 ++ x0.2.2.2.2.2.1), ())).bind fun t24 =>
 some (t24.1, ())
 else none
 else
 some ((([] : List Int), ()), ())
 else
 some ((([] : List Int), ()), ())
 else
 some ((([] : List Int), ()), ())
 else
 some ((([] : List Int), ()), ())
 else
 some ((([] : List Int), ()), ())
def spec_PacketBytes (k : Nat) (x0 : D_Packet) : Option (((List Int) × Unit) × Unit) :=
 bif (!(decide (x0.1 = (4:Int)))) then
 bif (!(!(decide (x0.1 = (6:Int))))) then
 spec_PacketBytes_j0 k x0
 else
 some ((([] : List Int), ()), ())
 else
 spec_PacketBytes_j0 k x0
def spec_l01Cur_pick (x0 : D_l01Cur) (x1 : Int) : Option ((Int × Unit) × (D_l01Cur × Unit)) :=
 bif (decide (x1 < (2:Int))) then
 some (((0:Int), ()), x0, ())
 else
 bif (decide (x0.2.1 < (((List.length x0.1) : Nat) : Int))) then
 bif ((decide ((0:Int) ≤ x0.2.1)) && (decide (x0.2.1 < (((List.length x0.1) : Nat) : Int)))) then
 bif (decide ((Int.toNat x0.2.1) < (List.length x0.1))) then
 bif (!(decide (x1 = (0:Int)))) then
 some (((Int.tmod (IntKind.wrap .i64 (List.getD x0.1 (Int.toNat x0.2.1) (0:Int))) x1), ()), (x0.1, (IntKind.wrap .i64 (x0.2.1 + (1:Int))), x0.2.2), ())
 else none
 else none
 else none
 else
 bif (decide ((0:Int) < (((List.length x0.1) : Nat) : Int))) then
 bif (!(decide ((((List.length x0.1) : Nat) : Int) = (0:Int)))) then
 bif ((decide ((0:Int) ≤ (Int.tmod x0.2.1 (((List.length x0.1) : Nat) : Int)))) && (decide ((Int.tmod x0.2.1 (((List.length x0.1) : Nat) : Int)) < (((List.length x0.1) : Nat) : Int)))) then
 bif (decide ((Int.toNat (Int.tmod x0.2.1 (((List.length x0.1) : Nat) : Int))) < (List.length x0.1))) then
 bif (!(decide (x1 = (0:Int)))) then
 some (((Int.tmod (IntKind.wrap .i64 ((IntKind.wrap .i64 (Int.tdiv (Int.tmod (IntKind.wrap .i64 ((IntKind.wrap .i64 (x0.2.2.1 * (1103:Int))) + (12345:Int))) (65521:Int)) (7:Int))) + (IntKind.wrap .i64 (List.getD x0.1 (Int.toNat (Int.tmod x0.2.1 (((List.length x0.1) : Nat) : Int))) (0:Int))))) x1), ()), (x0.1, (IntKind.wrap .i64 (x0.2.1 + (1:Int))), (Int.tmod (IntKind.wrap .i64 ((IntKind.wrap .i64 (x0.2.2.1 * (1103:Int))) + (12345:Int))) (65521:Int)), ()), ())
 else none
 else none
 else none
 else none
 else
 bif (!(decide (x1 = (0:Int)))) then
 some (((Int.tmod (0:Int) x1), ()), (x0.1, (IntKind.wrap .i64 (x0.2.1 + (1:Int))), (Int.tmod (IntKind.wrap .i64 ((IntKind.wrap .i64 (x0.2.2.1 * (1103:Int))) + (12345:Int))) (65521:Int)), ()), ())
 else none
def spec_l01Cur_kind (x0 : D_l01Cur) : Option ((Int × Unit) × (D_l01Cur × Unit)) :=
 (spec_l01Cur_pick x0 (3:Int)).bind fun t1 =>
 bif ((decide ((0:Int) ≤ t1.1.1)) && (decide (t1.1.1 < (3:Int)))) then
 bif (decide ((Int.toNat t1.1.1) < (3:Nat))) then
 some (((List.getD ([(4:Int), (4:Int), (6:Int)] : List Int) (Int.toNat t1.1.1) (0:Int)), ()), t1.2)
 else none
 else none
def spec_l01Cur_wide (x0 : D_l01Cur) (x1 : Int) : Option ((Int × Unit) × (D_l01Cur × Unit)) :=
 (spec_l01Cur_pick x0 (256:Int)).bind fun t1 =>
 (spec_l01Cur_pick t1.2.1 (256:Int)).bind fun t2 =>
 (spec_l01Cur_pick t2.2.1 (256:Int)).bind fun t3 =>
 bif (!(decide (x1 = (0:Int)))) then
 some (((Int.tmod (IntKind.wrap .i64 ((IntKind.wrap .i64 ((IntKind.wrap .i64 ((65536:Int) * t1.1.1)) + (IntKind.wrap .i64 ((256:Int) * t2.1.1)))) + t3.1.1)) x1), ()), t3.2)
 else none
def spec_l01Cur_ether (x0 : D_l01Cur) : Option ((D_Ether × Unit) × (D_l01Cur × Unit)) :=
 (spec_l01Cur_wide x0 (16777216:Int)).bind fun t1 =>
 (spec_l01Cur_pick t1.2.1 (256:Int)).bind fun t2 =>
 (spec_l01Cur_wide t2.2.1 (16777216:Int)).bind fun t3 =>
 (spec_l01Cur_pick t3.2.1 (256:Int)).bind fun t4 =>
 (spec_l01Cur_wide t4.2.1 (65536:Int)).bind fun t5 =>
 (spec_l01Cur_pick t5.2.1 (5:Int)).bind fun t6 =>
 bif ((decide ((0:Int) ≤ t6.1.1)) && (decide (t6.1.1 < (5:Int)))) then
 (spec_l01Cur_pick t6.2.1 (6:Int)).bind fun t7 =>
 bif ((decide ((0:Int) ≤ t7.1.1)) && (decide (t7.1.1 < (6:Int)))) then
 some ((((IntKind.wrap .i64 ((IntKind.wrap .i64 (t1.1.1 * (7919:Int))) + t2.1.1)), (IntKind.wrap .i64 ((IntKind.wrap .i64 (t3.1.1 * (16777215:Int))) + t4.1.1)), (List.getD ([(-1:Int), (-1:Int), t5.1.1, (0:Int), (65535:Int)] : List Int) (Int.toNat t6.1.1) (0:Int)), (List.getD ([(2048:Int), (34525:Int), (2054:Int), (1536:Int), (65535:Int), (2048:Int)] : List Int) (Int.toNat t7.1.1) (0:Int)), ([] : List Int), ()), ()), t7.2)
 else none
 else none
def spec_l01Cur_size (x0 : D_l01Cur) (x1 : Int) : Option ((Int × Unit) × (D_l01Cur × Unit)) :=
 (spec_l01Cur_pick x0 (IntKind.wrap .i64 ((imin x1 (IntKind.wrap .i64 ((1:Int) + (IntKind.wrap .i64 (Int.tdiv (((List.length x0.1) : Nat) : Int) (8:Int)))))) + (1:Int)))).bind fun t1 =>
 some (t1.1, t1.2)
def spec_l01Cur_bytes_s3 (rec : ((D_l01Cur × Unit) × (Unit × ((List Int) × (Int × Unit)))) → Option (((D_l01Cur × Unit) × ((List Int) × Unit)))) (v : ((D_l01Cur × Unit) × (Unit × ((List Int) × (Int × Unit))))) : Option (((D_l01Cur × Unit) × ((List Int) × Unit))) :=
 bif (decide ((0:Int) < v.2.2.2.1)) then
 (spec_l01Cur_pick (v.1.1.1, v.1.1.2.1, v.1.1.2.2.1, ()) (256:Int)).bind fun t2 =>
 bif (decide ((((List.length v.2.2.1) + (1:Nat)) * 1) ≤ (1099511627776:Nat))) then
 rec (t2.2, (), (v.2.2.1 ++ ([(IntKind.wrap .u8 t2.1.1)] : List Int)), (IntKind.wrap .i64 (v.2.2.2.1 - (1:Int))), ())
 else none
 else
 some (((v.1.1.1, v.1.1.2.1, v.1.1.2.2.1, ()), ()), v.2.2.1, ())
def spec_l01Cur_bytes (k : Nat) (x0 : D_l01Cur) (x1 : Int) : Option (((List Int) × Unit) × (D_l01Cur × Unit)) :=
 (spec_l01Cur_size x0 x1).bind fun t1 =>
 (iter (spec_l01Cur_bytes_s3) k (t1.2, (), ([] : List Int), t1.1)).bind fun o2 =>
 some (o2.2, (o2.1.1.1, o2.1.1.2.1, o2.1.1.2.2.1, ()), ())
def spec_l01Cur_once (x0 : D_l01Cur) (x1 : Int) : Option ((Bool × Unit) × (D_l01Cur × Unit)) :=
 (spec_l01Cur_pick x0 x1).bind fun t1 =>
 some (((decide (t1.1.1 = (IntKind.wrap .i64 (x1 - (1:Int))))), ()), t1.2)
abbrev spec_l01Cur_upper_j0 (t9 : ((Int × Unit) × (D_l01Cur × Unit))) (t2 : ((Int × Unit) × (D_l01Cur × Unit))) (x1 : Int) (t3 : ((Int × Unit) × (D_l01Cur × Unit))) (t4 : ((Int × Unit) × (D_l01Cur × Unit))) (t5 : ((Int × Unit) × (D_l01Cur × Unit))) (t6 : ((Int × Unit) × (D_l01Cur × Unit))) (t7 : ((Int × Unit) × (D_l01Cur × Unit))) (t1 : (((List Int) × Unit) × (D_l01Cur × Unit))) : Option ((D_Upper × Unit) × (D_l01Cur × Unit)) :=
 (spec_l01Cur_wide t9.2.1 (65536:Int)).bind fun t10 =>
 (spec_l01Cur_pick t10.2.1 (9:Int)).bind fun t11 =>
 bif ((decide ((0:Int) ≤ t2.1.1)) && (decide (t2.1.1 < (3:Int)))) then
 bif (decide ((Int.toNat t2.1.1) < (3:Nat))) then
 (spec_l01Cur_pick t11.2.1 (9:Int)).bind fun t12 =>
 (spec_l01Cur_wide t12.2.1 (65536:Int)).bind fun t13 =>
 (spec_l01Cur_pick t13.2.1 (5:Int)).bind fun t14 =>
 bif ((decide ((0:Int) ≤ t14.1.1)) && (decide (t14.1.1 < (5:Int)))) then
 bif (decide ((Int.toNat t14.1.1) < (5:Nat))) then
 some (((x1, (List.getD ([t10.1.1, (IntKind.wrap .i64 ((1024:Int) + t11.1.1)), (53:Int)] : List Int) (Int.toNat t2.1.1) (0:Int)), (List.getD ([(80:Int), (443:Int), (53:Int), (IntKind.wrap .i64 ((8000:Int) + t12.1.1)), t13.1.1] : List Int) (Int.toNat t14.1.1) (0:Int)), (IntKind.wrap .i64 (t3.1.1 * (255:Int))), t4.1.1, (IntKind.wrap .i64 (t5.1.1 * (16:Int))), t6.1.1, t7.1.1, (0:Int), (0:Int), (0:Int), false, (List.replicate (Int.toNat (IntKind.wrap .i64 ((4:Int) * t9.1.1))) (0:Int)), t1.1), ()), t14.2)
 else none
 else none
 else none
 else none
abbrev spec_l01Cur_upper_j1 (t8 : ((Bool × Unit) × (D_l01Cur × Unit))) (t2 : ((Int × Unit) × (D_l01Cur × Unit))) (x1 : Int) (t3 : ((Int × Unit) × (D_l01Cur × Unit))) (t4 : ((Int × Unit) × (D_l01Cur × Unit))) (t5 : ((Int × Unit) × (D_l01Cur × Unit))) (t6 : ((Int × Unit) × (D_l01Cur × Unit))) (t7 : ((Int × Unit) × (D_l01Cur × Unit))) (t1 : (((List Int) × Unit) × (D_l01Cur × Unit))) : Option ((D_Upper × Unit) × (D_l01Cur × Unit)) :=
 (spec_l01Cur_wide t8.2.1 (65536:Int)).bind fun t20 =>
 (spec_l01Cur_pick t20.2.1 (9:Int)).bind fun t21 =>
 bif ((decide ((0:Int) ≤ t2.1.1)) && (decide (t2.1.1 < (3:Int)))) then
 bif (decide ((Int.toNat t2.1.1) < (3:Nat))) then
 (spec_l01Cur_pick t21.2.1 (9:Int)).bind fun t22 =>
 (spec_l01Cur_wide t22.2.1 (65536:Int)).bind fun t23 =>
 (spec_l01Cur_pick t23.2.1 (5:Int)).bind fun t24 =>
 bif ((decide ((0:Int) ≤ t24.1.1)) && (decide (t24.1.1 < (5:Int)))) then
 bif (decide ((Int.toNat t24.1.1) < (5:Nat))) then
 some (((x1, (List.getD ([t20.1.1, (IntKind.wrap .i64 ((1024:Int) + t21.1.1)), (53:Int)] : List Int) (Int.toNat t2.1.1) (0:Int)), (List.getD ([(80:Int), (443:Int), (53:Int), (IntKind.wrap .i64 ((8000:Int) + t22.1.1)), t23.1.1] : List Int) (Int.toNat t24.1.1) (0:Int)), (IntKind.wrap .i64 (t3.1.1 * (255:Int))), t4.1.1, (IntKind.wrap .i64 (t5.1.1 * (16:Int))), t6.1.1, t7.1.1, (0:Int), (0:Int), (0:Int), false, ([] : List Int), t1.1), ()), t24.2)
 else none
 else none
 else none
 else none
abbrev spec_l01Cur_upper_j2 (t30 : ((Bool × Unit) × (D_l01Cur × Unit))) (t2 : ((Int × Unit) × (D_l01Cur × Unit))) (x1 : Int) (t1 : (((List Int) × Unit) × (D_l01Cur × Unit))) : Option ((D_Upper × Unit) × (D_l01Cur × Unit)) :=
 (spec_l01Cur_wide t30.2.1 (65536:Int)).bind fun t31 =>
 (spec_l01Cur_pick t31.2.1 (9:Int)).bind fun t32 =>
 bif ((decide ((0:Int) ≤ t2.1.1)) && (decide (t2.1.1 < (3:Int)))) then
 bif (decide ((Int.toNat t2.1.1) < (3:Nat))) then
 (spec_l01Cur_pick t32.2.1 (9:Int)).bind fun t33 =>
 (spec_l01Cur_wide t33.2.1 (65536:Int)).bind fun t34 =>
 (spec_l01Cur_pick t34.2.1 (5:Int)).bind fun t35 =>
 bif ((decide ((0:Int) ≤ t35.1.1)) && (decide (t35.1.1 < (5:Int)))) then
 bif (decide ((Int.toNat t35.1.1) < (5:Nat))) then
 some (((x1, (List.getD ([t31.1.1, (IntKind.wrap .i64 ((1024:Int) + t32.1.1)), (53:Int)] : List Int) (Int.toNat t2.1.1) (0:Int)), (List.getD ([(80:Int), (443:Int), (53:Int), (IntKind.wrap .i64 ((8000:Int) + t33.1.1)), t34.1.1] : List Int) (Int.toNat t35.1.1) (0:Int)), (0:Int), (0:Int), (0:Int), (0:Int), (0:Int), (0:Int), (0:Int), (0:Int), t30.1.1, ([] : List Int), t1.1), ()), t35.2)
 else none
 else none
 else none
 else none
abbrev spec_l01Cur_upper_j4 (t2 : ((Int × Unit) × (D_l01Cur × Unit))) (x1 : Int) (t1 : (((List Int) × Unit) × (D_l01Cur × Unit))) : Option ((D_Upper × Unit) × (D_l01Cur × Unit)) :=
 (spec_l01Cur_wide t2.2.1 (65536:Int)).bind fun t41 =>
 (spec_l01Cur_pick t41.2.1 (9:Int)).bind fun t42 =>
 bif ((decide ((0:Int) ≤ t2.1.1)) && (decide (t2.1.1 < (3:Int)))) then
 bif (decide ((Int.toNat t2.1.1) < (3:Nat))) then
 (spec_l01Cur_pick t42.2.1 (9:Int)).bind fun t43 =>
 (spec_l01Cur_wide t43.2.1 (65536:Int)).bind fun t44 =>
 (spec_l01Cur_pick t44.2.1 (5:Int)).bind fun t45 =>
 bif ((decide ((0:Int) ≤ t45.1.1)) && (decide (t45.1.1 < (5:Int)))) then
 bif (decide ((Int.toNat t45.1.1) < (5:Nat))) then
 some (((x1, (List.getD ([t41.1.1, (IntKind.wrap .i64 ((1024:Int) + t42.1.1)), (53:Int)] : List Int) (Int.toNat t2.1.1) (0:Int)), (List.getD ([(80:Int), (443:Int), (53:Int), (IntKind.wrap .i64 ((8000:Int) + t43.1.1)), t44.1.1] : List Int) (Int.toNat t45.1.1) (0:Int)), (0:Int), (0:Int), (0:Int), (0:Int), (0:Int), (0:Int), (0:Int), (0:Int), false, ([] : List Int), t1.1), ()), t45.2)
 else none
 else none
 else none
 else none
abbrev spec_l01Cur_upper_j3 (x1 : Int) (t2 : ((Int × Unit) × (D_l01Cur × Unit))) (t1 : (((List Int) × Unit) × (D_l01Cur × Unit))) : Option ((D_Upper × Unit) × (D_l01Cur × Unit)) :=
 bif (!(decide (x1 = (1:Int)))) then
 bif (decide (x1 = (2:Int))) then
 spec_l01Cur_upper_j4 t2 x1 t1
 else
 some (((x1, (0:Int), (0:Int), (0:Int), (0:Int), (0:Int), (0:Int), (0:Int), (0:Int), (0:Int), (0:Int), false, ([] : List Int), t1.1), ()), t2.2)
 else
 spec_l01Cur_upper_j4 t2 x1 t1
abbrev spec_l01Cur_upper_j5 (t53 : ((Int × Unit) × (D_l01Cur × Unit))) (t2 : ((Int × Unit) × (D_l01Cur × Unit))) (x1 : Int) (t51 : ((Int × Unit) × (D_l01Cur × Unit))) (t52 : ((Int × Unit) × (D_l01Cur × Unit))) (t1 : (((List Int) × Unit) × (D_l01Cur × Unit))) : Option ((D_Upper × Unit) × (D_l01Cur × Unit)) :=
 (spec_l01Cur_wide t53.2.1 (65536:Int)).bind fun t54 =>
 (spec_l01Cur_pick t54.2.1 (9:Int)).bind fun t55 =>
 bif ((decide ((0:Int) ≤ t2.1.1)) && (decide (t2.1.1 < (3:Int)))) then
 bif (decide ((Int.toNat t2.1.1) < (3:Nat))) then
 (spec_l01Cur_pick t55.2.1 (9:Int)).bind fun t56 =>
 (spec_l01Cur_wide t56.2.1 (65536:Int)).bind fun t57 =>
 (spec_l01Cur_pick t57.2.1 (5:Int)).bind fun t58 =>
 bif ((decide ((0:Int) ≤ t58.1.1)) && (decide (t58.1.1 < (5:Int)))) then
 bif (decide ((Int.toNat t58.1.1) < (5:Nat))) then
 some (((x1, (List.getD ([t54.1.1, (IntKind.wrap .i64 ((1024:Int) + t55.1.1)), (53:Int)] : List Int) (Int.toNat t2.1.1) (0:Int)), (List.getD ([(80:Int), (443:Int), (53:Int), (IntKind.wrap .i64 ((8000:Int) + t56.1.1)), t57.1.1] : List Int) (Int.toNat t58.1.1) (0:Int)), (0:Int), (0:Int), (0:Int), (0:Int), (0:Int), (List.getD ([(0:Int), (8:Int), (3:Int), (128:Int), (255:Int)] : List Int) (Int.toNat t51.1.1) (0:Int)), t52.1.1, (IntKind.wrap .i64 (t53.1.1 * (3:Int))), false, ([] : List Int), t1.1), ()), t58.2)
 else none
 else none
 else none
 else none
def spec_l01Cur_upper (k : Nat) (x0 : D_l01Cur) (x1 : Int) (x2 : Int) : Option ((D_Upper × Unit) × (D_l01Cur × Unit)) :=
 (spec_l01Cur_bytes k x0 (40:Int)).bind fun t1 =>
 (spec_l01Cur_pick t1.2.1 (3:Int)).bind fun t2 =>
 bif (decide (x1 = (1:Int))) then
 (spec_l01Cur_wide t2.2.1 (16777216:Int)).bind fun t3 =>
 (spec_l01Cur_wide t3.2.1 (16777216:Int)).bind fun t4 =>
 (spec_l01Cur_pick t4.2.1 (256:Int)).bind fun t5 =>
 (spec_l01Cur_wide t5.2.1 (65536:Int)).bind fun t6 =>
 (spec_l01Cur_pick t6.2.1 (2:Int)).bind fun t7 =>
 (spec_l01Cur_once t7.2.1 (4:Int)).bind fun t8 =>
 bif t8.1.1 then
 (spec_l01Cur_pick t8.2.1 (11:Int)).bind fun t9 =>
 bif (((decide ((0:Int) ≤ (IntKind.wrap .i64 ((4:Int) * t9.1.1)))) && (decide ((IntKind.wrap .i64 ((4:Int) * t9.1.1)) ≤ (IntKind.wrap .i64 ((4:Int) * t9.1.1))))) && (decide (((1:Int) * (IntKind.wrap .i64 ((4:Int) * t9.1.1))) ≤ (1099511627776:Int)))) then
 bif (!(decide (x1 = (1:Int)))) then
 bif (decide (x1 = (2:Int))) then
 spec_l01Cur_upper_j0 t9 t2 x1 t3 t4 t5 t6 t7 t1
 else
 some (((x1, (0:Int), (0:Int), (IntKind.wrap .i64 (t3.1.1 * (255:Int))), t4.1.1, (IntKind.wrap .i64 (t5.1.1 * (16:Int))), t6.1.1, t7.1.1, (0:Int), (0:Int), (0:Int), false, (List.replicate (Int.toNat (IntKind.wrap .i64 ((4:Int) * t9.1.1))) (0:Int)), t1.1), ()), t9.2)
 else
 spec_l01Cur_upper_j0 t9 t2 x1 t3 t4 t5 t6 t7 t1
 else none
 else
 bif (!(decide (x1 = (1:Int)))) then
 bif (decide (x1 = (2:Int))) then
 spec_l01Cur_upper_j1 t8 t2 x1 t3 t4 t5 t6 t7 t1
 else
 some (((x1, (0:Int), (0:Int), (IntKind.wrap .i64 (t3.1.1 * (255:Int))), t4.1.1, (IntKind.wrap .i64 (t5.1.1 * (16:Int))), t6.1.1, t7.1.1, (0:Int), (0:Int), (0:Int), false, ([] : List Int), t1.1), ()), t8.2)
 else
 spec_l01Cur_upper_j1 t8 t2 x1 t3 t4 t5 t6 t7 t1
 else
 bif (decide (x1 = (2:Int))) then
 bif (decide (x2 = (4:Int))) then
 (spec_l01Cur_once t2.2.1 (4:Int)).bind fun t30 =>
 bif (!(decide (x1 = (1:Int)))) then
 bif (decide (x1 = (2:Int))) then
 spec_l01Cur_upper_j2 t30 t2 x1 t1
 else
 some (((x1, (0:Int), (0:Int), (0:Int), (0:Int), (0:Int), (0:Int), (0:Int), (0:Int), (0:Int), (0:Int), t30.1.1, ([] : List Int), t1.1), ()), t30.2)
 else
 spec_l01Cur_upper_j2 t30 t2 x1 t1
 else
 spec_l01Cur_upper_j3 x1 t2 t1
 else
 bif (decide (x1 = (3:Int))) then
 (spec_l01Cur_pick t2.2.1 (5:Int)).bind fun t51 =>
 bif ((decide ((0:Int) ≤ t51.1.1)) && (decide (t51.1.1 < (5:Int)))) then
 bif (decide ((Int.toNat t51.1.1) < (5:Nat))) then
 (spec_l01Cur_pick t51.2.1 (4:Int)).bind fun t52 =>
 (spec_l01Cur_wide t52.2.1 (16777216:Int)).bind fun t53 =>
 bif (!(decide (x1 = (1:Int)))) then
 bif (decide (x1 = (2:Int))) then
 spec_l01Cur_upper_j5 t53 t2 x1 t51 t52 t1
 else
 some (((x1, (0:Int), (0:Int), (0:Int), (0:Int), (0:Int), (0:Int), (0:Int), (List.getD ([(0:Int), (8:Int), (3:Int), (128:Int), (255:Int)] : List Int) (Int.toNat t51.1.1) (0:Int)), t52.1.1, (IntKind.wrap .i64 (t53.1.1 * (3:Int))), false, ([] : List Int), t1.1), ()), t53.2)
 else
 spec_l01Cur_upper_j5 t53 t2 x1 t51 t52 t1
 else none
 else none
 else
 spec_l01Cur_upper_j3 x1 t2 t1
def spec_l01Cur_addr (x0 : D_l01Cur) (x1 : Int) : Option ((D_Addr × Unit) × (D_l01Cur × Unit)) :=
 bif (decide (x1 = (4:Int))) then
 (spec_l01Cur_pick x0 (4:Int)).bind fun t1 =>
 (spec_l01Cur_pick t1.2.1 (3:Int)).bind fun t2 =>
 (spec_l01Cur_pick t2.2.1 (256:Int)).bind fun t3 =>
 (spec_l01Cur_pick t3.2.1 (8:Int)).bind fun t4 =>
 (spec_l01Cur_wide t4.2.1 (16777216:Int)).bind fun t5 =>
 (spec_l01Cur_pick t5.2.1 (256:Int)).bind fun t6 =>
 (spec_l01Cur_pick t6.2.1 (5:Int)).bind fun t7 =>
 bif ((decide ((0:Int) ≤ t7.1.1)) && (decide (t7.1.1 < (5:Int)))) then
 bif (decide ((Int.toNat t7.1.1) < (5:Nat))) then
 some ((((4:Int), (0:Int), (0:Int), (0:Int), (List.getD ([(IntKind.wrap .i64 ((167772160:Int) + t1.1.1)), (IntKind.wrap .i64 ((IntKind.wrap .i64 ((167772160:Int) + (IntKind.wrap .i64 ((256:Int) * t2.1.1)))) + t3.1.1)), (IntKind.wrap .i64 ((3232235520:Int) + t4.1.1)), (IntKind.wrap .i64 ((IntKind.wrap .i64 (t5.1.1 * (256:Int))) + t6.1.1)), (4294967295:Int)] : List Int) (Int.toNat t7.1.1) (0:Int)), ()), ()), t7.2)
 else none
 else none
 else
 (spec_l01Cur_wide x0 (16777216:Int)).bind fun t8 =>
 (spec_l01Cur_pick t8.2.1 (3:Int)).bind fun t9 =>
 bif ((decide ((0:Int) ≤ t9.1.1)) && (decide (t9.1.1 < (3:Int)))) then
 (spec_l01Cur_pick t9.2.1 (2:Int)).bind fun t10 =>
 (spec_l01Cur_pick t10.2.1 (3:Int)).bind fun t11 =>
 (spec_l01Cur_wide t11.2.1 (16777216:Int)).bind fun t12 =>
 (spec_l01Cur_pick t12.2.1 (8:Int)).bind fun t13 =>
 (spec_l01Cur_pick t13.2.1 (3:Int)).bind fun t14 =>
 (spec_l01Cur_pick t14.2.1 (2:Int)).bind fun t15 =>
 bif ((decide ((0:Int) ≤ t15.1.1)) && (decide (t15.1.1 < (2:Int)))) then
 some ((((6:Int), (List.getD ([(536939960:Int), (4261412864:Int), t8.1.1] : List Int) (Int.toNat t9.1.1) (0:Int)), t10.1.1, (IntKind.wrap .i64 ((IntKind.wrap .i64 (t11.1.1 * t12.1.1)) * (200:Int))), (List.getD ([t13.1.1, (IntKind.wrap .i64 ((4294967295:Int) - t14.1.1))] : List Int) (Int.toNat t15.1.1) (0:Int)), ()), ()), t15.2)
 else none
 else none
def spec_l01Cur_four_s9 (rec : ((D_l01Cur × Unit) × (Unit × (D_Four × (D_Four × (Int × Unit))))) → Option (((D_l01Cur × Unit) × (D_Four × (D_Four × Unit))))) (v : ((D_l01Cur × Unit) × (Unit × (D_Four × (D_Four × (Int × Unit)))))) : Option (((D_l01Cur × Unit) × (D_Four × (D_Four × Unit)))) :=
 bif (decide (v.2.2.2.2.1 < (((List.length v.2.2.2.1.2.2.2.2.2.2.2.2.2.1) : Nat) : Int))) then
 (spec_l01Cur_pick (v.1.1.1, v.1.1.2.1, v.1.1.2.2.1, ()) (256:Int)).bind fun t15 =>
 bif ((decide ((0:Int) ≤ v.2.2.2.2.1)) && (decide (v.2.2.2.2.1 < (((List.length v.2.2.2.1.2.2.2.2.2.2.2.2.2.1) : Nat) : Int)))) then
 bif (decide ((Int.toNat v.2.2.2.2.1) < (List.length v.2.2.2.1.2.2.2.2.2.2.2.2.2.1))) then
 let y16 : (List Int) := (List.set v.2.2.2.1.2.2.2.2.2.2.2.2.2.1 (Int.toNat v.2.2.2.2.1) (IntKind.wrap .u8 t15.1.1))
 rec (t15.2, (), v.2.2.1, (v.2.2.2.1.1, v.2.2.2.1.2.1, v.2.2.2.1.2.2.1, v.2.2.2.1.2.2.2.1, v.2.2.2.1.2.2.2.2.1, v.2.2.2.1.2.2.2.2.2.1, v.2.2.2.1.2.2.2.2.2.2.1, v.2.2.2.1.2.2.2.2.2.2.2.1, v.2.2.2.1.2.2.2.2.2.2.2.2.1, y16, v.2.2.2.1.2.2.2.2.2.2.2.2.2.2), (IntKind.wrap .i64 (v.2.2.2.2.1 + (1:Int))), ())
 else none
 else none
 else
 some (((v.1.1.1, v.1.1.2.1, v.1.1.2.2.1, ()), ()), v.2.2.1, v.2.2.2.1, ())
def spec_l01Cur_four (k : Nat) (x0 : D_l01Cur) : Option ((D_Four × Unit) × (D_l01Cur × Unit)) :=
 (spec_l01Cur_pick x0 (64:Int)).bind fun t1 =>
 (spec_l01Cur_pick t1.2.1 (4:Int)).bind fun t2 =>
 (spec_l01Cur_wide t2.2.1 (65536:Int)).bind fun t3 =>
 (spec_l01Cur_pick t3.2.1 (5:Int)).bind fun t4 =>
 bif ((decide ((0:Int) ≤ t4.1.1)) && (decide (t4.1.1 < (5:Int)))) then
 (spec_l01Cur_pick t4.2.1 (256:Int)).bind fun t5 =>
 (spec_l01Cur_pick t5.2.1 (6:Int)).bind fun t6 =>
 bif ((decide ((0:Int) ≤ t6.1.1)) && (decide (t6.1.1 < (6:Int)))) then
 (spec_l01Cur_pick t6.2.1 (256:Int)).bind fun t7 =>
 (spec_l01Cur_pick t7.2.1 (7:Int)).bind fun t8 =>
 bif ((decide ((0:Int) ≤ t8.1.1)) && (decide (t8.1.1 < (7:Int)))) then
 (spec_l01Cur_addr t8.2.1 (4:Int)).bind fun t9 =>
 (spec_l01Cur_addr t9.2.1 (4:Int)).bind fun t10 =>
 (spec_l01Cur_once t10.2.1 (6:Int)).bind fun t11 =>
 bif t11.1.1 then
 (spec_l01Cur_pick t11.2.1 (3:Int)).bind fun t12 =>
 bif ((decide ((0:Int) ≤ t12.1.1)) && (decide (t12.1.1 < (3:Int)))) then
 bif (decide ((Int.toNat t12.1.1) < (3:Nat))) then
 (spec_l01Cur_once t12.2.1 (5:Int)).bind fun t13 =>
 bif t13.1.1 then
 (spec_l01Cur_pick t13.2.1 (11:Int)).bind fun t14 =>
 bif (((decide ((0:Int) ≤ (IntKind.wrap .i64 ((4:Int) * t14.1.1)))) && (decide ((IntKind.wrap .i64 ((4:Int) * t14.1.1)) ≤ (IntKind.wrap .i64 ((4:Int) * t14.1.1))))) && (decide (((1:Int) * (IntKind.wrap .i64 ((4:Int) * t14.1.1))) ≤ (1099511627776:Int)))) then
 (iter (spec_l01Cur_four_s9) k (t14.2, (), zzF, (t1.1.1, t2.1.1, t3.1.1, (List.getD ([(0:Int), (2:Int), (2:Int), (1:Int), (4:Int)] : List Int) (Int.toNat t4.1.1) (0:Int)), (List.getD ([(0:Int), (1:Int), (8191:Int)] : List Int) (Int.toNat t12.1.1) (0:Int)), (List.getD ([(64:Int), (1:Int), (2:Int), (0:Int), (255:Int), t5.1.1] : List Int) (Int.toNat t6.1.1) (0:Int)), (List.getD ([(6:Int), (17:Int), (1:Int), (47:Int), (6:Int), (17:Int), t7.1.1] : List Int) (Int.toNat t8.1.1) (0:Int)), t9.1.1, t10.1.1, (List.replicate (Int.toNat (IntKind.wrap .i64 ((4:Int) * t14.1.1))) (0:Int)), ([] : List Int), ()), (0:Int), ())).bind fun o15 =>
 some (o15.2.2, (o15.1.1.1, o15.1.1.2.1, o15.1.1.2.2.1, ()), ())
 else none
 else
 some (((t1.1.1, t2.1.1, t3.1.1, (List.getD ([(0:Int), (2:Int), (2:Int), (1:Int), (4:Int)] : List Int) (Int.toNat t4.1.1) (0:Int)), (List.getD ([(0:Int), (1:Int), (8191:Int)] : List Int) (Int.toNat t12.1.1) (0:Int)), (List.getD ([(64:Int), (1:Int), (2:Int), (0:Int), (255:Int), t5.1.1] : List Int) (Int.toNat t6.1.1) (0:Int)), (List.getD ([(6:Int), (17:Int), (1:Int), (47:Int), (6:Int), (17:Int), t7.1.1] : List Int) (Int.toNat t8.1.1) (0:Int)), t9.1.1, t10.1.1, ([] : List Int), ([] : List Int), ()), ()), t13.2)
 else none
 else none
 else
 (spec_l01Cur_once t11.2.1 (5:Int)).bind fun t16 =>
 bif t16.1.1 then
 (spec_l01Cur_pick t16.2.1 (11:Int)).bind fun t17 =>
 bif (((decide ((0:Int) ≤ (IntKind.wrap .i64 ((4:Int) * t17.1.1)))) && (decide ((IntKind.wrap .i64 ((4:Int) * t17.1.1)) ≤ (IntKind.wrap .i64 ((4:Int) * t17.1.1))))) && (decide (((1:Int) * (IntKind.wrap .i64 ((4:Int) * t17.1.1))) ≤ (1099511627776:Int)))) then
 (iter (spec_l01Cur_four_s9) k (t17.2, (), zzF, (t1.1.1, t2.1.1, t3.1.1, (List.getD ([(0:Int), (2:Int), (2:Int), (1:Int), (4:Int)] : List Int) (Int.toNat t4.1.1) (0:Int)), (0:Int), (List.getD ([(64:Int), (1:Int), (2:Int), (0:Int), (255:Int), t5.1.1] : List Int) (Int.toNat t6.1.1) (0:Int)), (List.getD ([(6:Int), (17:Int), (1:Int), (47:Int), (6:Int), (17:Int), t7.1.1] : List Int) (Int.toNat t8.1.1) (0:Int)), t9.1.1, t10.1.1, (List.replicate (Int.toNat (IntKind.wrap .i64 ((4:Int) * t17.1.1))) (0:Int)), ([] : List Int), ()), (0:Int), ())).bind fun o18 =>
 some (o18.2.2, (o18.1.1.1, o18.1.1.2.1, o18.1.1.2.2.1, ()), ())
 else none
 else
 some (((t1.1.1, t2.1.1, t3.1.1, (List.getD ([(0:Int), (2:Int), (2:Int), (1:Int), (4:Int)] : List Int) (Int.toNat t4.1.1) (0:Int)), (0:Int), (List.getD ([(64:Int), (1:Int), (2:Int), (0:Int), (255:Int), t5.1.1] : List Int) (Int.toNat t6.1.1) (0:Int)), (List.getD ([(6:Int), (17:Int), (1:Int), (47:Int), (6:Int), (17:Int), t7.1.1] : List Int) (Int.toNat t8.1.1) (0:Int)), t9.1.1, t10.1.1, ([] : List Int), ([] : List Int), ()), ()), t16.2)
 else none
 else none
 else none
def spec_l01Cur_six_s10 (rec : ((D_l01Cur × Unit) × (Unit × (D_Six × (D_Six × (Int × (D_Ext × (Int × Unit))))))) → Option (((D_l01Cur × Unit) × (Unit × (D_Six × (D_Six × (Int × (D_Ext × Unit)))))))) (v : ((D_l01Cur × Unit) × (Unit × (D_Six × (D_Six × (Int × (D_Ext × (Int × Unit)))))))) : Option (((D_l01Cur × Unit) × (Unit × (D_Six × (D_Six × (Int × (D_Ext × Unit))))))) :=
 bif (decide (v.2.2.2.2.2.2.1 < (((List.length v.2.2.2.2.2.1.2.1) : Nat) : Int))) then
 (spec_l01Cur_pick (v.1.1.1, v.1.1.2.1, v.1.1.2.2.1, ()) (256:Int)).bind fun t14 =>
 bif ((decide ((0:Int) ≤ v.2.2.2.2.2.2.1)) && (decide (v.2.2.2.2.2.2.1 < (((List.length v.2.2.2.2.2.1.2.1) : Nat) : Int)))) then
 bif (decide ((Int.toNat v.2.2.2.2.2.2.1) < (List.length v.2.2.2.2.2.1.2.1))) then
 let y15 : (List Int) := (List.set v.2.2.2.2.2.1.2.1 (Int.toNat v.2.2.2.2.2.2.1) (IntKind.wrap .u8 t14.1.1))
 rec (t14.2, (), v.2.2.1, v.2.2.2.1, v.2.2.2.2.1, (v.2.2.2.2.2.1.1, y15, ()), (IntKind.wrap .i64 (v.2.2.2.2.2.2.1 + (1:Int))), ())
 else none
 else none
 else
 some (((v.1.1.1, v.1.1.2.1, v.1.1.2.2.1, ()), ()), (), v.2.2.1, v.2.2.2.1, v.2.2.2.2.1, v.2.2.2.2.2.1, ())
def spec_l01Cur_six_s6 (k : Nat) (rec : ((D_l01Cur × Unit) × (Unit × (D_Six × (D_Six × (Int × Unit))))) → Option (((D_l01Cur × Unit) × (D_Six × (D_Six × Unit))))) (v : ((D_l01Cur × Unit) × (Unit × (D_Six × (D_Six × (Int × Unit)))))) : Option (((D_l01Cur × Unit) × (D_Six × (D_Six × Unit)))) :=
 bif (decide ((0:Int) < v.2.2.2.2.1)) then
 (spec_l01Cur_pick (v.1.1.1, v.1.1.2.1, v.1.1.2.2.1, ()) (2:Int)).bind fun t11 =>
 bif ((decide ((0:Int) ≤ t11.1.1)) && (decide (t11.1.1 < (2:Int)))) then
 (spec_l01Cur_pick t11.2.1 (3:Int)).bind fun t12 =>
 bif ((decide ((0:Int) ≤ t12.1.1)) && (decide (t12.1.1 < (3:Int)))) then
 (spec_l01Cur_pick t12.2.1 (List.getD ([(1:Int), (2:Int), (8:Int)] : List Int) (Int.toNat t12.1.1) (0:Int))).bind fun t13 =>
 bif (((decide ((0:Int) ≤ (IntKind.wrap .i64 ((IntKind.wrap .i64 ((8:Int) * t13.1.1)) + (6:Int))))) && (decide ((IntKind.wrap .i64 ((IntKind.wrap .i64 ((8:Int) * t13.1.1)) + (6:Int))) ≤ (IntKind.wrap .i64 ((IntKind.wrap .i64 ((8:Int) * t13.1.1)) + (6:Int)))))) && (decide (((1:Int) * (IntKind.wrap .i64 ((IntKind.wrap .i64 ((8:Int) * t13.1.1)) + (6:Int)))) ≤ (1099511627776:Int)))) then
 (iter (spec_l01Cur_six_s10) k (t13.2, (), v.2.2.1, v.2.2.2.1, v.2.2.2.2.1, ((List.getD ([(43:Int), (60:Int)] : List Int) (Int.toNat t11.1.1) (0:Int)), (List.replicate (Int.toNat (IntKind.wrap .i64 ((IntKind.wrap .i64 ((8:Int) * t13.1.1)) + (6:Int)))) (0:Int)), ()), (0:Int), ())).bind fun o14 =>
 bif (decide ((((List.length o14.2.2.2.1.2.2.2.2.2.2.1) : Nat) : Int) = (0:Int))) then
 (spec_l01Cur_once (o14.1.1.1, o14.1.1.2.1, o14.1.1.2.2.1, ()) (2:Int)).bind fun t15 =>
 bif t15.1.1 then
 bif (decide ((((List.length o14.2.2.2.1.2.2.2.2.2.2.1) + (1:Nat)) * 32) ≤ (1099511627776:Nat))) then
 rec (t15.2, (), o14.2.2.1, (o14.2.2.2.1.1, o14.2.2.2.1.2.1, o14.2.2.2.1.2.2.1, o14.2.2.2.1.2.2.2.1, o14.2.2.2.1.2.2.2.2.1, o14.2.2.2.1.2.2.2.2.2.1, (o14.2.2.2.1.2.2.2.2.2.2.1 ++ ([((0:Int), o14.2.2.2.2.2.1.2)] : List D_Ext)), o14.2.2.2.1.2.2.2.2.2.2.2), (IntKind.wrap .i64 (o14.2.2.2.2.1 - (1:Int))), ())
 else none
 else
 bif (decide ((((List.length o14.2.2.2.1.2.2.2.2.2.2.1) + (1:Nat)) * 32) ≤ (1099511627776:Nat))) then
 rec (t15.2, (), o14.2.2.1, (o14.2.2.2.1.1, o14.2.2.2.1.2.1, o14.2.2.2.1.2.2.1, o14.2.2.2.1.2.2.2.1, o14.2.2.2.1.2.2.2.2.1, o14.2.2.2.1.2.2.2.2.2.1, (o14.2.2.2.1.2.2.2.2.2.2.1 ++ ([o14.2.2.2.2.2.1] : List D_Ext)), o14.2.2.2.1.2.2.2.2.2.2.2), (IntKind.wrap .i64 (o14.2.2.2.2.1 - (1:Int))), ())
 else none
 else
 bif (decide ((((List.length o14.2.2.2.1.2.2.2.2.2.2.1) + (1:Nat)) * 32) ≤ (1099511627776:Nat))) then
 rec (((o14.1.1.1, o14.1.1.2.1, o14.1.1.2.2.1, ()), ()), (), o14.2.2.1, (o14.2.2.2.1.1, o14.2.2.2.1.2.1, o14.2.2.2.1.2.2.1, o14.2.2.2.1.2.2.2.1, o14.2.2.2.1.2.2.2.2.1, o14.2.2.2.1.2.2.2.2.2.1, (o14.2.2.2.1.2.2.2.2.2.2.1 ++ ([o14.2.2.2.2.2.1] : List D_Ext)), o14.2.2.2.1.2.2.2.2.2.2.2), (IntKind.wrap .i64 (o14.2.2.2.2.1 - (1:Int))), ())
 else none
 else none
 else none
 else none
 else
 some (((v.1.1.1, v.1.1.2.1, v.1.1.2.2.1, ()), ()), v.2.2.1, v.2.2.2.1, ())
def spec_l01Cur_six (k : Nat) (x0 : D_l01Cur) : Option ((D_Six × Unit) × (D_l01Cur × Unit)) :=
 (spec_l01Cur_pick x0 (256:Int)).bind fun t1 =>
 (spec_l01Cur_wide t1.2.1 (1048576:Int)).bind fun t2 =>
 (spec_l01Cur_pick t2.2.1 (256:Int)).bind fun t3 =>
 (spec_l01Cur_pick t3.2.1 (6:Int)).bind fun t4 =>
 bif ((decide ((0:Int) ≤ t4.1.1)) && (decide (t4.1.1 < (6:Int)))) then
 (spec_l01Cur_pick t4.2.1 (42:Int)).bind fun t5 =>
 (spec_l01Cur_pick t5.2.1 (7:Int)).bind fun t6 =>
 bif ((decide ((0:Int) ≤ t6.1.1)) && (decide (t6.1.1 < (7:Int)))) then
 (spec_l01Cur_addr t6.2.1 (6:Int)).bind fun t7 =>
 (spec_l01Cur_addr t7.2.1 (6:Int)).bind fun t8 =>
 (spec_l01Cur_once t8.2.1 (3:Int)).bind fun t9 =>
 bif t9.1.1 then
 (spec_l01Cur_pick t9.2.1 (4:Int)).bind fun t10 =>
 (iter (spec_l01Cur_six_s6 k) k (t10.2, (), zzS, (t1.1.1, t2.1.1, (List.getD ([(64:Int), (1:Int), (2:Int), (0:Int), (255:Int), t3.1.1] : List Int) (Int.toNat t4.1.1) (0:Int)), (List.getD ([(6:Int), (17:Int), (58:Int), (59:Int), (6:Int), (17:Int), (IntKind.wrap .i64 ((1:Int) + t5.1.1))] : List Int) (Int.toNat t6.1.1) (0:Int)), t7.1.1, t8.1.1, ([] : List D_Ext), ([] : List Int), ()), t10.1)).bind fun o11 =>
 some (o11.2.2, (o11.1.1.1, o11.1.1.2.1, o11.1.1.2.2.1, ()), ())
 else
 some (((t1.1.1, t2.1.1, (List.getD ([(64:Int), (1:Int), (2:Int), (0:Int), (255:Int), t3.1.1] : List Int) (Int.toNat t4.1.1) (0:Int)), (List.getD ([(6:Int), (17:Int), (58:Int), (59:Int), (6:Int), (17:Int), (IntKind.wrap .i64 ((1:Int) + t5.1.1))] : List Int) (Int.toNat t6.1.1) (0:Int)), t7.1.1, t8.1.1, ([] : List D_Ext), ([] : List Int), ()), ()), t9.2)
 else none
 else none
abbrev spec_l01Cur_packet_j0 (k : Nat) (t5 : ((D_Four × Unit) × (D_l01Cur × Unit))) (t1 : ((Int × Unit) × (D_l01Cur × Unit))) (t2 : ((D_Ether × Unit) × (D_l01Cur × Unit))) : Option ((D_Packet × Unit) × (D_l01Cur × Unit)) :=
 (spec_l01Cur_bytes k t5.2.1 (30:Int)).bind fun t6 =>
 (spec_l01Cur_once t6.2.1 (4:Int)).bind fun t7 =>
 bif t7.1.1 then
 (spec_l01Cur_bytes k t7.2.1 (12:Int)).bind fun t8 =>
 some (((t1.1.1, (t2.1.1.1, t2.1.1.2.1, t2.1.1.2.2.1, (2048:Int), t2.1.1.2.2.2.2), (t5.1.1.1, t5.1.1.2.1, t5.1.1.2.2.1, t5.1.1.2.2.2.1, t5.1.1.2.2.2.2.1, t5.1.1.2.2.2.2.2.1, (58:Int), t5.1.1.2.2.2.2.2.2.2), zzS, ((0:Int), (0:Int), (0:Int), (0:Int), (0:Int), (0:Int), (0:Int), (0:Int), (0:Int), (0:Int), (0:Int), false, ([] : List Int), t6.1), t8.1), ()), t8.2)
 else
 some (((t1.1.1, (t2.1.1.1, t2.1.1.2.1, t2.1.1.2.2.1, (2048:Int), t2.1.1.2.2.2.2), (t5.1.1.1, t5.1.1.2.1, t5.1.1.2.2.1, t5.1.1.2.2.2.1, t5.1.1.2.2.2.2.1, t5.1.1.2.2.2.2.2.1, (58:Int), t5.1.1.2.2.2.2.2.2.2), zzS, ((0:Int), (0:Int), (0:Int), (0:Int), (0:Int), (0:Int), (0:Int), (0:Int), (0:Int), (0:Int), (0:Int), false, ([] : List Int), t6.1), ([] : List Int), ()), ()), t7.2)
abbrev spec_l01Cur_packet_j2 (k : Nat) (t18 : ((D_Four × Unit) × (D_l01Cur × Unit))) (t1 : ((Int × Unit) × (D_l01Cur × Unit))) (t2 : ((D_Ether × Unit) × (D_l01Cur × Unit))) (t3 : ((Int × Unit) × (D_l01Cur × Unit))) : Option ((D_Packet × Unit) × (D_l01Cur × Unit)) :=
 (spec_l01Cur_bytes k t18.2.1 (30:Int)).bind fun t19 =>
 (spec_l01Cur_once t19.2.1 (4:Int)).bind fun t20 =>
 bif t20.1.1 then
 (spec_l01Cur_bytes k t20.2.1 (12:Int)).bind fun t21 =>
 some (((t1.1.1, (t2.1.1.1, t2.1.1.2.1, t2.1.1.2.2.1, (2048:Int), t2.1.1.2.2.2.2), (t18.1.1.1, t18.1.1.2.1, t18.1.1.2.2.1, t18.1.1.2.2.2.1, t18.1.1.2.2.2.2.1, t18.1.1.2.2.2.2.2.1, (List.getD ([(47:Int), (6:Int), (17:Int), (1:Int)] : List Int) (Int.toNat t3.1.1) (0:Int)), t18.1.1.2.2.2.2.2.2.2), zzS, ((0:Int), (0:Int), (0:Int), (0:Int), (0:Int), (0:Int), (0:Int), (0:Int), (0:Int), (0:Int), (0:Int), false, ([] : List Int), t19.1), t21.1), ()), t21.2)
 else
 some (((t1.1.1, (t2.1.1.1, t2.1.1.2.1, t2.1.1.2.2.1, (2048:Int), t2.1.1.2.2.2.2), (t18.1.1.1, t18.1.1.2.1, t18.1.1.2.2.1, t18.1.1.2.2.2.1, t18.1.1.2.2.2.2.1, t18.1.1.2.2.2.2.2.1, (List.getD ([(47:Int), (6:Int), (17:Int), (1:Int)] : List Int) (Int.toNat t3.1.1) (0:Int)), t18.1.1.2.2.2.2.2.2.2), zzS, ((0:Int), (0:Int), (0:Int), (0:Int), (0:Int), (0:Int), (0:Int), (0:Int), (0:Int), (0:Int), (0:Int), false, ([] : List Int), t19.1), ([] : List Int), ()), ()), t20.2)
abbrev spec_l01Cur_packet_j1 (k : Nat) (t3 : ((Int × Unit) × (D_l01Cur × Unit))) (t1 : ((Int × Unit) × (D_l01Cur × Unit))) (t2 : ((D_Ether × Unit) × (D_l01Cur × Unit))) : Option ((D_Packet × Unit) × (D_l01Cur × Unit)) :=
 (spec_l01Cur_upper k t3.2.1 t3.1.1 t1.1.1).bind fun t17 =>
 bif (decide (t1.1.1 = (4:Int))) then
 (spec_l01Cur_four k t17.2.1).bind fun t18 =>
 bif (!(!(decide (t18.1.1.2.2.2.2.1 = (0:Int))))) then
 bif (decide ((Int.tmod t18.1.1.2.2.2.1 (2:Int)) = (1:Int))) then
 spec_l01Cur_packet_j2 k t18 t1 t2 t3
 else
 (spec_l01Cur_once t18.2.1 (4:Int)).bind fun t22 =>
 bif t22.1.1 then
 (spec_l01Cur_bytes k t22.2.1 (12:Int)).bind fun t23 =>
 some (((t1.1.1, (t2.1.1.1, t2.1.1.2.1, t2.1.1.2.2.1, (2048:Int), t2.1.1.2.2.2.2), (t18.1.1.1, t18.1.1.2.1, t18.1.1.2.2.1, t18.1.1.2.2.2.1, t18.1.1.2.2.2.2.1, t18.1.1.2.2.2.2.2.1, (List.getD ([(47:Int), (6:Int), (17:Int), (1:Int)] : List Int) (Int.toNat t3.1.1) (0:Int)), t18.1.1.2.2.2.2.2.2.2), zzS, t17.1.1, t23.1), ()), t23.2)
 else
 some (((t1.1.1, (t2.1.1.1, t2.1.1.2.1, t2.1.1.2.2.1, (2048:Int), t2.1.1.2.2.2.2), (t18.1.1.1, t18.1.1.2.1, t18.1.1.2.2.1, t18.1.1.2.2.2.1, t18.1.1.2.2.2.2.1, t18.1.1.2.2.2.2.2.1, (List.getD ([(47:Int), (6:Int), (17:Int), (1:Int)] : List Int) (Int.toNat t3.1.1) (0:Int)), t18.1.1.2.2.2.2.2.2.2), zzS, t17.1.1, ([] : List Int), ()), ()), t22.2)
 else
 spec_l01Cur_packet_j2 k t18 t1 t2 t3
 else
 (spec_l01Cur_six k t17.2.1).bind fun t27 =>
 (spec_l01Cur_once t27.2.1 (4:Int)).bind fun t28 =>
 bif t28.1.1 then
 (spec_l01Cur_bytes k t28.2.1 (12:Int)).bind fun t29 =>
 some (((t1.1.1, (t2.1.1.1, t2.1.1.2.1, t2.1.1.2.2.1, (34525:Int), t2.1.1.2.2.2.2), zzF, (t27.1.1.1, t27.1.1.2.1, t27.1.1.2.2.1, (List.getD ([(47:Int), (6:Int), (17:Int), (1:Int)] : List Int) (Int.toNat t3.1.1) (0:Int)), t27.1.1.2.2.2.2), t17.1.1, t29.1), ()), t29.2)
 else
 some (((t1.1.1, (t2.1.1.1, t2.1.1.2.1, t2.1.1.2.2.1, (34525:Int), t2.1.1.2.2.2.2), zzF, (t27.1.1.1, t27.1.1.2.1, t27.1.1.2.2.1, (List.getD ([(47:Int), (6:Int), (17:Int), (1:Int)] : List Int) (Int.toNat t3.1.1) (0:Int)), t27.1.1.2.2.2.2), t17.1.1, ([] : List Int), ()), ()), t28.2)
def spec_l01Cur_packet (k : Nat) (x0 : D_l01Cur) : Option ((D_Packet × Unit) × (D_l01Cur × Unit)) :=
 (spec_l01Cur_kind x0).bind fun t1 =>
 (spec_l01Cur_ether t1.2.1).bind fun t2 =>
 (spec_l01Cur_pick t2.2.1 (4:Int)).bind fun t3 =>
 bif ((decide ((0:Int) ≤ t3.1.1)) && (decide (t3.1.1 < (4:Int)))) then
 bif (decide ((Int.toNat t3.1.1) < (4:Nat))) then
 bif (decide (t3.1.1 = (3:Int))) then
 bif (decide (t1.1.1 = (6:Int))) then
 (spec_l01Cur_upper k t3.2.1 t3.1.1 t1.1.1).bind fun t4 =>
 bif (decide (t1.1.1 = (4:Int))) then
 (spec_l01Cur_four k t4.2.1).bind fun t5 =>
 bif (!(!(decide (t5.1.1.2.2.2.2.1 = (0:Int))))) then
 bif (decide ((Int.tmod t5.1.1.2.2.2.1 (2:Int)) = (1:Int))) then
 spec_l01Cur_packet_j0 k t5 t1 t2
 else
 (spec_l01Cur_once t5.2.1 (4:Int)).bind fun t9 =>
 bif t9.1.1 then
 (spec_l01Cur_bytes k t9.2.1 (12:Int)).bind fun t10 =>
 some (((t1.1.1, (t2.1.1.1, t2.1.1.2.1, t2.1.1.2.2.1, (2048:Int), t2.1.1.2.2.2.2), (t5.1.1.1, t5.1.1.2.1, t5.1.1.2.2.1, t5.1.1.2.2.2.1, t5.1.1.2.2.2.2.1, t5.1.1.2.2.2.2.2.1, (58:Int), t5.1.1.2.2.2.2.2.2.2), zzS, t4.1.1, t10.1), ()), t10.2)
 else
 some (((t1.1.1, (t2.1.1.1, t2.1.1.2.1, t2.1.1.2.2.1, (2048:Int), t2.1.1.2.2.2.2), (t5.1.1.1, t5.1.1.2.1, t5.1.1.2.2.1, t5.1.1.2.2.2.1, t5.1.1.2.2.2.2.1, t5.1.1.2.2.2.2.2.1, (58:Int), t5.1.1.2.2.2.2.2.2.2), zzS, t4.1.1, ([] : List Int), ()), ()), t9.2)
 else
 spec_l01Cur_packet_j0 k t5 t1 t2
 else
 (spec_l01Cur_six k t4.2.1).bind fun t14 =>
 (spec_l01Cur_once t14.2.1 (4:Int)).bind fun t15 =>
 bif t15.1.1 then
 (spec_l01Cur_bytes k t15.2.1 (12:Int)).bind fun t16 =>
 some (((t1.1.1, (t2.1.1.1, t2.1.1.2.1, t2.1.1.2.2.1, (34525:Int), t2.1.1.2.2.2.2), zzF, (t14.1.1.1, t14.1.1.2.1, t14.1.1.2.2.1, (58:Int), t14.1.1.2.2.2.2), t4.1.1, t16.1), ()), t16.2)
 else
 some (((t1.1.1, (t2.1.1.1, t2.1.1.2.1, t2.1.1.2.2.1, (34525:Int), t2.1.1.2.2.2.2), zzF, (t14.1.1.1, t14.1.1.2.1, t14.1.1.2.2.1, (58:Int), t14.1.1.2.2.2.2), t4.1.1, ([] : List Int), ()), ()), t15.2)
 else
 spec_l01Cur_packet_j1 k t3 t1 t2
 else
 spec_l01Cur_packet_j1 k t3 t1 t2
 else none
 else none
def spec_l01Cur_frame (k : Nat) (x0 : D_l01Cur) : Option (((List Int) × Unit) × (D_l01Cur × Unit)) :=
 (spec_l01Cur_packet k x0).bind fun t1 =>
 (spec_PacketBytes k t1.1.1).bind fun t2 =>
 (spec_l01Cur_pick t1.2.1 (9:Int)).bind fun t3 =>
 bif (decide (t3.1.1 = (0:Int))) then
 (spec_l01Cur_pick t3.2.1 (IntKind.wrap .i64 ((((List.length t2.1.1) : Nat) : Int) + (1:Int)))).bind fun t4 =>
 bif ((decide ((0:Int) ≤ t4.1.1)) && (decide (t4.1.1 ≤ (((List.length t2.1.1) : Nat) : Int)))) then
 some (((List.take (Int.toNat t4.1.1) t2.1.1), ()), t4.2)
 else none
 else
 bif (decide (t3.1.1 = (1:Int))) then
 bif (decide ((0:Int) < (((List.length t2.1.1) : Nat) : Int))) then
 (spec_l01Cur_pick t3.2.1 (((List.length t2.1.1) : Nat) : Int)).bind fun t5 =>
 (spec_l01Cur_pick t5.2.1 (256:Int)).bind fun t6 =>
 bif ((decide ((0:Int) ≤ t5.1.1)) && (decide (t5.1.1 < (((List.length t2.1.1) : Nat) : Int)))) then
 bif (decide ((Int.toNat t5.1.1) < (List.length t2.1.1))) then
 let y7 : (List Int) := (List.set t2.1.1 (Int.toNat t5.1.1) (IntKind.wrap .u8 t6.1.1))
 some ((y7, ()), t6.2)
 else none
 else none
 else
 some (t2.1, t3.2)
 else
 bif (decide (t3.1.1 = (2:Int))) then
 bif (decide ((20:Int) < (((List.length t2.1.1) : Nat) : Int))) then
 (spec_l01Cur_pick t3.2.1 (4:Int)).bind fun t8 =>
 (spec_l01Cur_pick t8.2.1 (7:Int)).bind fun t9 =>
 bif ((decide ((0:Int) ≤ t9.1.1)) && (decide (t9.1.1 < (7:Int)))) then
 bif (decide ((Int.toNat t9.1.1) < (7:Nat))) then
 bif ((decide ((0:Int) ≤ (IntKind.wrap .i64 ((12:Int) + t8.1.1)))) && (decide ((IntKind.wrap .i64 ((12:Int) + t8.1.1)) < (((List.length t2.1.1) : Nat) : Int)))) then
 bif (decide ((Int.toNat (IntKind.wrap .i64 ((12:Int) + t8.1.1))) < (List.length t2.1.1))) then
 let y10 : (List Int) := (List.set t2.1.1 (Int.toNat (IntKind.wrap .i64 ((12:Int) + t8.1.1))) (IntKind.wrap .u8 (List.getD ([(8:Int), (0:Int), (134:Int), (221:Int), (129:Int), (69:Int), (96:Int)] : List Int) (Int.toNat t9.1.1) (0:Int))))
 some ((y10, ()), t9.2)
 else none
 else none
 else none
 else none
 else
 some (t2.1, t3.2)
 else
 some (t2.1, t3.2)
def spec_DrawPacketRead (k : Nat) (x0 : (List Int)) : Option (((List Int) × Unit) × Unit) :=
 (spec_l01Cur_frame k (x0, (0:Int), (IntKind.wrap .i64 ((71:Int) + (Int.tmod (((List.length x0) : Nat) : Int) (1000:Int)))), ())).bind fun t1 =>
 some (t1.1, ())
def spec_Be16 (x0 : (List Int)) (x1 : Int) : Option ((Int × (Bool × Unit)) × Unit) :=
 bif (!(decide (x1 < (0:Int)))) then
 bif (decide ((IntKind.wrap .i64 ((((List.length x0) : Nat) : Int) - (2:Int))) < x1)) then
 some (((0:Int), false, ()), ())
 else
 bif ((decide ((0:Int) ≤ x1)) && (decide (x1 < (((List.length x0) : Nat) : Int)))) then
 bif (decide ((Int.toNat x1) < (List.length x0))) then
 bif ((decide ((0:Int) ≤ (IntKind.wrap .i64 (x1 + (1:Int))))) && (decide ((IntKind.wrap .i64 (x1 + (1:Int))) < (((List.length x0) : Nat) : Int)))) then
 bif (decide ((Int.toNat (IntKind.wrap .i64 (x1 + (1:Int)))) < (List.length x0))) then
 some (((IntKind.wrap .i64 ((IntKind.wrap .i64 ((256:Int) * (IntKind.wrap .i64 (List.getD x0 (Int.toNat x1) (0:Int))))) + (IntKind.wrap .i64 (List.getD x0 (Int.toNat (IntKind.wrap .i64 (x1 + (1:Int)))) (0:Int))))), true, ()), ())
 else none
 else none
 else none
 else none
 else
 some (((0:Int), false, ()), ())
def spec_Be32_s5 (rec : (Unit × ((List Int) × (Int × (Int × (Int × Unit))))) → Option ((Unit × (Int × Unit)))) (v : (Unit × ((List Int) × (Int × (Int × (Int × Unit)))))) : Option ((Unit × (Int × Unit))) :=
 bif (decide (v.2.2.2.2.1 < (4:Int))) then
 bif ((decide ((0:Int) ≤ (IntKind.wrap .i64 (v.2.2.1 + v.2.2.2.2.1)))) && (decide ((IntKind.wrap .i64 (v.2.2.1 + v.2.2.2.2.1)) < (((List.length v.2.1) : Nat) : Int)))) then
 bif (decide ((Int.toNat (IntKind.wrap .i64 (v.2.2.1 + v.2.2.2.2.1))) < (List.length v.2.1))) then
 rec ((), v.2.1, v.2.2.1, (IntKind.wrap .i64 ((IntKind.wrap .i64 ((256:Int) * v.2.2.2.1)) + (IntKind.wrap .i64 (List.getD v.2.1 (Int.toNat (IntKind.wrap .i64 (v.2.2.1 + v.2.2.2.2.1))) (0:Int))))), (IntKind.wrap .i64 (v.2.2.2.2.1 + (1:Int))), ())
 else none
 else none
 else
 some ((), v.2.2.2.1, ())
def spec_Be32 (k : Nat) (x0 : (List Int)) (x1 : Int) : Option ((Int × (Bool × Unit)) × Unit) :=
 bif (!(decide (x1 < (0:Int)))) then
 bif (decide ((IntKind.wrap .i64 ((((List.length x0) : Nat) : Int) - (4:Int))) < x1)) then
 some (((0:Int), false, ()), ())
 else
 (iter (spec_Be32_s5) k ((), x0, x1, (0:Int), (0:Int), ())).bind fun o1 =>
 some ((o1.2.1, true, ()), ())
 else
 some (((0:Int), false, ()), ())
def spec_EtherRead (k : Nat) (x0 : (List Int)) : Option ((D_Ether × (Int × Unit)) × Unit) :=
 bif (decide ((1600:Int) < (((List.length x0) : Nat) : Int))) then
 some ((zzE, (1:Int), ()), ())
 else
 bif (decide ((((List.length x0) : Nat) : Int) < (14:Int))) then
 some ((zzE, (2:Int), ()), ())
 else
 (spec_Be16 x0 (0:Int)).bind fun t1 =>
 (spec_Be32 k x0 (2:Int)).bind fun t2 =>
 (spec_Be16 x0 (6:Int)).bind fun t3 =>
 (spec_Be32 k x0 (8:Int)).bind fun t4 =>
 (spec_Be16 x0 (12:Int)).bind fun t5 =>
 bif (decide (t5.1.1 = (33024:Int))) then
 bif (decide ((((List.length x0) : Nat) : Int) < (18:Int))) then
 some ((zzE, (3:Int), ()), ())
 else
 (spec_Be16 x0 (14:Int)).bind fun t6 =>
 (spec_Be16 x0 (16:Int)).bind fun t7 =>
 bif (!(decide (t7.1.1 < (1536:Int)))) then
 bif (decide (t7.1.1 = (33024:Int))) then
 some ((zzE, (4:Int), ()), ())
 else
 bif ((decide ((18:Int) ≤ (((List.length x0) : Nat) : Int))) && (decide ((((List.length x0) : Nat) : Int) ≤ (((List.length x0) : Nat) : Int)))) then
 bif (decide ((((0:Nat) + (List.length (List.take ((List.length x0) - (18:Nat)) (List.drop (18:Nat) x0)))) * 1) ≤ (1099511627776:Nat))) then
 some ((((IntKind.wrap .i64 ((IntKind.wrap .i64 (t1.1.1 * (4294967296:Int))) + t2.1.1)), (IntKind.wrap .i64 ((IntKind.wrap .i64 (t3.1.1 * (4294967296:Int))) + t4.1.1)), t6.1.1, t7.1.1, (List.take ((List.length x0) - (18:Nat)) (List.drop (18:Nat) x0)), ()), (0:Int), ()), ())
 else none
 else none
 else
 some ((zzE, (4:Int), ()), ())
 else
 bif (!(decide (t5.1.1 < (1536:Int)))) then
 bif (decide (t5.1.1 = (33024:Int))) then
 some ((zzE, (4:Int), ()), ())
 else
 bif ((decide ((14:Int) ≤ (((List.length x0) : Nat) : Int))) && (decide ((((List.length x0) : Nat) : Int) ≤ (((List.length x0) : Nat) : Int)))) then
 bif (decide ((((0:Nat) + (List.length (List.take ((List.length x0) - (14:Nat)) (List.drop (14:Nat) x0)))) * 1) ≤ (1099511627776:Nat))) then
 some ((((IntKind.wrap .i64 ((IntKind.wrap .i64 (t1.1.1 * (4294967296:Int))) + t2.1.1)), (IntKind.wrap .i64 ((IntKind.wrap .i64 (t3.1.1 * (4294967296:Int))) + t4.1.1)), (-1:Int), t5.1.1, (List.take ((List.length x0) - (14:Nat)) (List.drop (14:Nat) x0)), ()), (0:Int), ()), ())
 else none
 else none
 else
 some ((zzE, (4:Int), ()), ())
def spec_AddrOf (k : Nat) (x0 : (List Int)) : Option ((D_Addr × (Bool × Unit)) × Unit) :=
 bif (decide ((((List.length x0) : Nat) : Int) = (4:Int))) then
 (spec_Be32 k x0 (0:Int)).bind fun t1 =>
 some ((((4:Int), (0:Int), (0:Int), (0:Int), t1.1.1, ()), true, ()), ())
 else
 bif (decide ((((List.length x0) : Nat) : Int) = (16:Int))) then
 (spec_Be32 k x0 (0:Int)).bind fun t2 =>
 (spec_Be32 k x0 (4:Int)).bind fun t3 =>
 (spec_Be32 k x0 (8:Int)).bind fun t4 =>
 (spec_Be32 k x0 (12:Int)).bind fun t5 =>
 some ((((6:Int), t2.1.1, t3.1.1, t4.1.1, t5.1.1, ()), true, ()), ())
 else
 some ((((0:Int), (0:Int), (0:Int), (0:Int), (0:Int), ()), false, ()), ())
abbrev spec_FourRead_j0 : Option ((D_Four × ((List Int) × (Int × Unit))) × Unit) :=
 some ((zzF, ([] : List Int), (4:Int), ()), ())
abbrev spec_FourRead_j1 : Option ((D_Four × ((List Int) × (Int × Unit))) × Unit) :=
 some ((zzF, ([] : List Int), (5:Int), ()), ())
def spec_FourRead (k : Nat) (x0 : (List Int)) : Option ((D_Four × ((List Int) × (Int × Unit))) × Unit) :=
 bif (decide ((1600:Int) < (((List.length x0) : Nat) : Int))) then
 some ((zzF, ([] : List Int), (1:Int), ()), ())
 else
 bif (decide ((((List.length x0) : Nat) : Int) < (20:Int))) then
 some ((zzF, ([] : List Int), (2:Int), ()), ())
 else
 bif (decide ((0:Int) < (((List.length x0) : Nat) : Int))) then
 bif (decide ((0:Nat) < (List.length x0))) then
 bif (!(decide ((IntKind.wrap .u8 (Int.tdiv (List.getD x0 (0:Nat) (0:Int)) (16:Int))) = (4:Int)))) then
 some ((zzF, ([] : List Int), (3:Int), ()), ())
 else
 bif (decide ((0:Int) < (((List.length x0) : Nat) : Int))) then
 bif (decide ((0:Nat) < (List.length x0))) then
 bif (!(decide ((IntKind.wrap .i64 ((4:Int) * (IntKind.wrap .i64 (Int.tmod (List.getD x0 (0:Nat) (0:Int)) (16:Int))))) < (20:Int)))) then
 bif (decide ((((List.length x0) : Nat) : Int) < (IntKind.wrap .i64 ((4:Int) * (IntKind.wrap .i64 (Int.tmod (List.getD x0 (0:Nat) (0:Int)) (16:Int))))))) then
 spec_FourRead_j0
 else
 (spec_Be16 x0 (2:Int)).bind fun t1 =>
 bif (!(decide (t1.1.1 < (IntKind.wrap .i64 ((4:Int) * (IntKind.wrap .i64 (Int.tmod (List.getD x0 (0:Nat) (0:Int)) (16:Int)))))))) then
 bif (!(decide ((1500:Int) < t1.1.1))) then
 bif (decide ((((List.length x0) : Nat) : Int) < t1.1.1)) then
 spec_FourRead_j1
 else
 bif (decide ((1:Int) < (((List.length x0) : Nat) : Int))) then
 bif (decide ((1:Nat) < (List.length x0))) then
 bif (decide ((1:Int) < (((List.length x0) : Nat) : Int))) then
 bif (decide ((1:Nat) < (List.length x0))) then
 bif (decide ((8:Int) < (((List.length x0) : Nat) : Int))) then
 bif (decide ((8:Nat) < (List.length x0))) then
 bif (decide ((9:Int) < (((List.length x0) : Nat) : Int))) then
 bif (decide ((9:Nat) < (List.length x0))) then
 (spec_Be16 x0 (4:Int)).bind fun t2 =>
 (spec_Be16 x0 (6:Int)).bind fun t3 =>
 bif (decide ((16:Int) ≤ (((List.length x0) : Nat) : Int))) then
 (spec_AddrOf k (List.take (4:Nat) (List.drop (12:Nat) x0))).bind fun t4 =>
 bif (decide ((20:Int) ≤ (((List.length x0) : Nat) : Int))) then
 (spec_AddrOf k (List.take (4:Nat) (List.drop (16:Nat) x0))).bind fun t5 =>
 bif ((decide ((20:Int) ≤ (IntKind.wrap .i64 ((4:Int) * (IntKind.wrap .i64 (Int.tmod (List.getD x0 (0:Nat) (0:Int)) (16:Int))))))) && (decide ((IntKind.wrap .i64 ((4:Int) * (IntKind.wrap .i64 (Int.tmod (List.getD x0 (0:Nat) (0:Int)) (16:Int))))) ≤ (((List.length x0) : Nat) : Int)))) then
 bif (decide ((((0:Nat) + (List.length (List.take ((Int.toNat (IntKind.wrap .i64 ((4:Int) * (IntKind.wrap .i64 (Int.tmod (List.getD x0 (0:Nat) (0:Int)) (16:Int)))))) - (20:Nat)) (List.drop (20:Nat) x0)))) * 1) ≤ (1099511627776:Nat))) then
 bif (((decide ((0:Int) ≤ (IntKind.wrap .i64 ((4:Int) * (IntKind.wrap .i64 (Int.tmod (List.getD x0 (0:Nat) (0:Int)) (16:Int))))))) && (decide ((IntKind.wrap .i64 ((4:Int) * (IntKind.wrap .i64 (Int.tmod (List.getD x0 (0:Nat) (0:Int)) (16:Int))))) ≤ t1.1.1))) && (decide (t1.1.1 ≤ (((List.length x0) : Nat) : Int)))) then
 bif (decide ((((0:Nat) + (List.length (List.take ((Int.toNat t1.1.1) - (Int.toNat (IntKind.wrap .i64 ((4:Int) * (IntKind.wrap .i64 (Int.tmod (List.getD x0 (0:Nat) (0:Int)) (16:Int))))))) (List.drop (Int.toNat (IntKind.wrap .i64 ((4:Int) * (IntKind.wrap .i64 (Int.tmod (List.getD x0 (0:Nat) (0:Int)) (16:Int)))))) x0)))) * 1) ≤ (1099511627776:Nat))) then
 (spec_Be16 x0 (10:Int)).bind fun t6 =>
 (spec_HeadSum k ((IntKind.wrap .i64 (Int.tdiv (IntKind.wrap .i64 (List.getD x0 (1:Nat) (0:Int))) (4:Int))), (Int.tmod (IntKind.wrap .i64 (List.getD x0 (1:Nat) (0:Int))) (4:Int)), t2.1.1, (IntKind.wrap .i64 (Int.tdiv t3.1.1 (8192:Int))), (Int.tmod t3.1.1 (8192:Int)), (IntKind.wrap .i64 (List.getD x0 (8:Nat) (0:Int))), (IntKind.wrap .i64 (List.getD x0 (9:Nat) (0:Int))), t4.1.1, t5.1.1, (List.take ((Int.toNat (IntKind.wrap .i64 ((4:Int) * (IntKind.wrap .i64 (Int.tmod (List.getD x0 (0:Nat) (0:Int)) (16:Int)))))) - (20:Nat)) (List.drop (20:Nat) x0)), (List.take ((Int.toNat t1.1.1) - (Int.toNat (IntKind.wrap .i64 ((4:Int) * (IntKind.wrap .i64 (Int.tmod (List.getD x0 (0:Nat) (0:Int)) (16:Int))))))) (List.drop (Int.toNat (IntKind.wrap .i64 ((4:Int) * (IntKind.wrap .i64 (Int.tmod (List.getD x0 (0:Nat) (0:Int)) (16:Int)))))) x0)), ())).bind fun t7 =>
 bif (!(decide (t6.1.1 = t7.1.1))) then
 some ((zzF, ([] : List Int), (6:Int), ()), ())
 else
 bif (((decide ((0:Int) ≤ t1.1.1)) && (decide (t1.1.1 ≤ (((List.length x0) : Nat) : Int)))) && (decide ((((List.length x0) : Nat) : Int) ≤ (((List.length x0) : Nat) : Int)))) then
 bif (decide ((((0:Nat) + (List.length (List.take ((List.length x0) - (Int.toNat t1.1.1)) (List.drop (Int.toNat t1.1.1) x0)))) * 1) ≤ (1099511627776:Nat))) then
 some ((((IntKind.wrap .i64 (Int.tdiv (IntKind.wrap .i64 (List.getD x0 (1:Nat) (0:Int))) (4:Int))), (Int.tmod (IntKind.wrap .i64 (List.getD x0 (1:Nat) (0:Int))) (4:Int)), t2.1.1, (IntKind.wrap .i64 (Int.tdiv t3.1.1 (8192:Int))), (Int.tmod t3.1.1 (8192:Int)), (IntKind.wrap .i64 (List.getD x0 (8:Nat) (0:Int))), (IntKind.wrap .i64 (List.getD x0 (9:Nat) (0:Int))), t4.1.1, t5.1.1, (List.take ((Int.toNat (IntKind.wrap .i64 ((4:Int) * (IntKind.wrap .i64 (Int.tmod (List.getD x0 (0:Nat) (0:Int)) (16:Int)))))) - (20:Nat)) (List.drop (20:Nat) x0)), (List.take ((Int.toNat t1.1.1) - (Int.toNat (IntKind.wrap .i64 ((4:Int) * (IntKind.wrap .i64 (Int.tmod (List.getD x0 (0:Nat) (0:Int)) (16:Int))))))) (List.drop (Int.toNat (IntKind.wrap .i64 ((4:Int) * (IntKind.wrap .i64 (Int.tmod (List.getD x0 (0:Nat) (0:Int)) (16:Int)))))) x0)), ()), (List.take ((List.length x0) - (Int.toNat t1.1.1)) (List.drop (Int.toNat t1.1.1) x0)), (0:Int), ()), ())
 else none
 else none
 else none
 else none
 else none
 else none
 else none
 else none
 else none
 else none
 else none
 else none
 else none
 else none
 else none
 else none
 else
 spec_FourRead_j1
 else
 spec_FourRead_j1
 else
 spec_FourRead_j0
 else none
 else none
 else none
 else none
def spec_SixRead_s17 (rec : (Unit × ((List Int) × (D_Six × (Int × (D_Six × (Int × (Int × Unit))))))) → Option ((Unit × (D_Six × ((List Int) × (Int × Unit)))) ⊕ (Unit × ((List Int) × (D_Six × (Int × (D_Six × (Int × (Int × Unit))))))))) (v : (Unit × ((List Int) × (D_Six × (Int × (D_Six × (Int × (Int × Unit)))))))) : Option ((Unit × (D_Six × ((List Int) × (Int × Unit)))) ⊕ (Unit × ((List Int) × (D_Six × (Int × (D_Six × (Int × (Int × Unit)))))))) :=
 (spec_l06Inner v.2.2.2.2.2.1).bind fun t5 =>
 bif t5.1.1 then
 bif (!(decide ((((List.length v.2.2.2.2.1.2.2.2.2.2.2.1) : Nat) : Int) = (3:Int)))) then
 bif (decide (v.2.2.2.2.2.1 = (0:Int))) then
 bif (!(decide ((0:Int) < (((List.length v.2.2.2.2.1.2.2.2.2.2.2.1) : Nat) : Int)))) then
 bif (!(decide (v.2.2.2.1 < (IntKind.wrap .i64 (v.2.2.2.2.2.2.1 + (2:Int)))))) then
 bif ((decide ((0:Int) ≤ (IntKind.wrap .i64 (v.2.2.2.2.2.2.1 + (1:Int))))) && (decide ((IntKind.wrap .i64 (v.2.2.2.2.2.2.1 + (1:Int))) < (((List.length v.2.1) : Nat) : Int)))) then
 bif (decide ((Int.toNat (IntKind.wrap .i64 (v.2.2.2.2.2.2.1 + (1:Int)))) < (List.length v.2.1))) then
 bif (!(decide ((7:Int) < (List.getD v.2.1 (Int.toNat (IntKind.wrap .i64 (v.2.2.2.2.2.2.1 + (1:Int)))) (0:Int))))) then
 bif ((decide ((0:Int) ≤ (IntKind.wrap .i64 (v.2.2.2.2.2.2.1 + (1:Int))))) && (decide ((IntKind.wrap .i64 (v.2.2.2.2.2.2.1 + (1:Int))) < (((List.length v.2.1) : Nat) : Int)))) then
 bif (decide ((Int.toNat (IntKind.wrap .i64 (v.2.2.2.2.2.2.1 + (1:Int)))) < (List.length v.2.1))) then
 bif (decide (v.2.2.2.1 < (IntKind.wrap .i64 ((IntKind.wrap .i64 (v.2.2.2.2.2.2.1 + (IntKind.wrap .i64 ((8:Int) * (IntKind.wrap .i64 (List.getD v.2.1 (Int.toNat (IntKind.wrap .i64 (v.2.2.2.2.2.2.1 + (1:Int)))) (0:Int))))))) + (8:Int))))) then
 some (Sum.inl ((), zzS, ([] : List Int), (5:Int), ()))
 else
 bif ((decide ((0:Int) ≤ (IntKind.wrap .i64 (v.2.2.2.2.2.2.1 + (1:Int))))) && (decide ((IntKind.wrap .i64 (v.2.2.2.2.2.2.1 + (1:Int))) < (((List.length v.2.1) : Nat) : Int)))) then
 bif (decide ((Int.toNat (IntKind.wrap .i64 (v.2.2.2.2.2.2.1 + (1:Int)))) < (List.length v.2.1))) then
 bif (((decide ((0:Int) ≤ (IntKind.wrap .i64 (v.2.2.2.2.2.2.1 + (2:Int))))) && (decide ((IntKind.wrap .i64 (v.2.2.2.2.2.2.1 + (2:Int))) ≤ (IntKind.wrap .i64 ((IntKind.wrap .i64 (v.2.2.2.2.2.2.1 + (IntKind.wrap .i64 ((8:Int) * (IntKind.wrap .i64 (List.getD v.2.1 (Int.toNat (IntKind.wrap .i64 (v.2.2.2.2.2.2.1 + (1:Int)))) (0:Int))))))) + (8:Int)))))) && (decide ((IntKind.wrap .i64 ((IntKind.wrap .i64 (v.2.2.2.2.2.2.1 + (IntKind.wrap .i64 ((8:Int) * (IntKind.wrap .i64 (List.getD v.2.1 (Int.toNat (IntKind.wrap .i64 (v.2.2.2.2.2.2.1 + (1:Int)))) (0:Int))))))) + (8:Int))) ≤ (((List.length v.2.1) : Nat) : Int)))) then
 bif (decide ((((0:Nat) + (List.length (List.take ((Int.toNat (IntKind.wrap .i64 ((IntKind.wrap .i64 (v.2.2.2.2.2.2.1 + (IntKind.wrap .i64 ((8:Int) * (IntKind.wrap .i64 (List.getD v.2.1 (Int.toNat (IntKind.wrap .i64 (v.2.2.2.2.2.2.1 + (1:Int)))) (0:Int))))))) + (8:Int)))) - (Int.toNat (IntKind.wrap .i64 (v.2.2.2.2.2.2.1 + (2:Int))))) (List.drop (Int.toNat (IntKind.wrap .i64 (v.2.2.2.2.2.2.1 + (2:Int)))) v.2.1)))) * 1) ≤ (1099511627776:Nat))) then
 bif (decide ((((List.length v.2.2.2.2.1.2.2.2.2.2.2.1) + (1:Nat)) * 32) ≤ (1099511627776:Nat))) then
 bif ((decide ((0:Int) ≤ v.2.2.2.2.2.2.1)) && (decide (v.2.2.2.2.2.2.1 < (((List.length v.2.1) : Nat) : Int)))) then
 bif (decide ((Int.toNat v.2.2.2.2.2.2.1) < (List.length v.2.1))) then
 rec ((), v.2.1, v.2.2.1, v.2.2.2.1, (v.2.2.2.2.1.1, v.2.2.2.2.1.2.1, v.2.2.2.2.1.2.2.1, v.2.2.2.2.1.2.2.2.1, v.2.2.2.2.1.2.2.2.2.1, v.2.2.2.2.1.2.2.2.2.2.1, (v.2.2.2.2.1.2.2.2.2.2.2.1 ++ ([(v.2.2.2.2.2.1, (List.take ((Int.toNat (IntKind.wrap .i64 ((IntKind.wrap .i64 (v.2.2.2.2.2.2.1 + (IntKind.wrap .i64 ((8:Int) * (IntKind.wrap .i64 (List.getD v.2.1 (Int.toNat (IntKind.wrap .i64 (v.2.2.2.2.2.2.1 + (1:Int)))) (0:Int))))))) + (8:Int)))) - (Int.toNat (IntKind.wrap .i64 (v.2.2.2.2.2.2.1 + (2:Int))))) (List.drop (Int.toNat (IntKind.wrap .i64 (v.2.2.2.2.2.2.1 + (2:Int)))) v.2.1)), ())] : List D_Ext)), v.2.2.2.2.1.2.2.2.2.2.2.2), (IntKind.wrap .i64 (List.getD v.2.1 (Int.toNat v.2.2.2.2.2.2.1) (0:Int))), (IntKind.wrap .i64 ((IntKind.wrap .i64 (v.2.2.2.2.2.2.1 + (IntKind.wrap .i64 ((8:Int) * (IntKind.wrap .i64 (List.getD v.2.1 (Int.toNat (IntKind.wrap .i64 (v.2.2.2.2.2.2.1 + (1:Int)))) (0:Int))))))) + (8:Int))), ())
 else none
 else none
 else none
 else none
 else none
 else none
 else none
 else none
 else none
 else
 some (Sum.inl ((), zzS, ([] : List Int), (5:Int), ()))
 else none
 else none
 else
 some (Sum.inl ((), zzS, ([] : List Int), (5:Int), ()))
 else
 some (Sum.inl ((), zzS, ([] : List Int), (5:Int), ()))
 else
 bif (!(decide (v.2.2.2.1 < (IntKind.wrap .i64 (v.2.2.2.2.2.2.1 + (2:Int)))))) then
 bif ((decide ((0:Int) ≤ (IntKind.wrap .i64 (v.2.2.2.2.2.2.1 + (1:Int))))) && (decide ((IntKind.wrap .i64 (v.2.2.2.2.2.2.1 + (1:Int))) < (((List.length v.2.1) : Nat) : Int)))) then
 bif (decide ((Int.toNat (IntKind.wrap .i64 (v.2.2.2.2.2.2.1 + (1:Int)))) < (List.length v.2.1))) then
 bif (!(decide ((7:Int) < (List.getD v.2.1 (Int.toNat (IntKind.wrap .i64 (v.2.2.2.2.2.2.1 + (1:Int)))) (0:Int))))) then
 bif ((decide ((0:Int) ≤ (IntKind.wrap .i64 (v.2.2.2.2.2.2.1 + (1:Int))))) && (decide ((IntKind.wrap .i64 (v.2.2.2.2.2.2.1 + (1:Int))) < (((List.length v.2.1) : Nat) : Int)))) then
 bif (decide ((Int.toNat (IntKind.wrap .i64 (v.2.2.2.2.2.2.1 + (1:Int)))) < (List.length v.2.1))) then
 bif (decide (v.2.2.2.1 < (IntKind.wrap .i64 ((IntKind.wrap .i64 (v.2.2.2.2.2.2.1 + (IntKind.wrap .i64 ((8:Int) * (IntKind.wrap .i64 (List.getD v.2.1 (Int.toNat (IntKind.wrap .i64 (v.2.2.2.2.2.2.1 + (1:Int)))) (0:Int))))))) + (8:Int))))) then
 some (Sum.inl ((), zzS, ([] : List Int), (5:Int), ()))
 else
 bif ((decide ((0:Int) ≤ (IntKind.wrap .i64 (v.2.2.2.2.2.2.1 + (1:Int))))) && (decide ((IntKind.wrap .i64 (v.2.2.2.2.2.2.1 + (1:Int))) < (((List.length v.2.1) : Nat) : Int)))) then
 bif (decide ((Int.toNat (IntKind.wrap .i64 (v.2.2.2.2.2.2.1 + (1:Int)))) < (List.length v.2.1))) then
 bif (((decide ((0:Int) ≤ (IntKind.wrap .i64 (v.2.2.2.2.2.2.1 + (2:Int))))) && (decide ((IntKind.wrap .i64 (v.2.2.2.2.2.2.1 + (2:Int))) ≤ (IntKind.wrap .i64 ((IntKind.wrap .i64 (v.2.2.2.2.2.2.1 + (IntKind.wrap .i64 ((8:Int) * (IntKind.wrap .i64 (List.getD v.2.1 (Int.toNat (IntKind.wrap .i64 (v.2.2.2.2.2.2.1 + (1:Int)))) (0:Int))))))) + (8:Int)))))) && (decide ((IntKind.wrap .i64 ((IntKind.wrap .i64 (v.2.2.2.2.2.2.1 + (IntKind.wrap .i64 ((8:Int) * (IntKind.wrap .i64 (List.getD v.2.1 (Int.toNat (IntKind.wrap .i64 (v.2.2.2.2.2.2.1 + (1:Int)))) (0:Int))))))) + (8:Int))) ≤ (((List.length v.2.1) : Nat) : Int)))) then
 bif (decide ((((0:Nat) + (List.length (List.take ((Int.toNat (IntKind.wrap .i64 ((IntKind.wrap .i64 (v.2.2.2.2.2.2.1 + (IntKind.wrap .i64 ((8:Int) * (IntKind.wrap .i64 (List.getD v.2.1 (Int.toNat (IntKind.wrap .i64 (v.2.2.2.2.2.2.1 + (1:Int)))) (0:Int))))))) + (8:Int)))) - (Int.toNat (IntKind.wrap .i64 (v.2.2.2.2.2.2.1 + (2:Int))))) (List.drop (Int.toNat (IntKind.wrap .i64 (v.2.2.2.2.2.2.1 + (2:Int)))) v.2.1)))) * 1) ≤ (1099511627776:Nat))) then
 bif (decide ((((List.length v.2.2.2.2.1.2.2.2.2.2.2.1) + (1:Nat)) * 32) ≤ (1099511627776:Nat))) then
 bif ((decide ((0:Int) ≤ v.2.2.2.2.2.2.1)) && (decide (v.2.2.2.2.2.2.1 < (((List.length v.2.1) : Nat) : Int)))) then
 bif (decide ((Int.toNat v.2.2.2.2.2.2.1) < (List.length v.2.1))) then
 rec ((), v.2.1, v.2.2.1, v.2.2.2.1, (v.2.2.2.2.1.1, v.2.2.2.2.1.2.1, v.2.2.2.2.1.2.2.1, v.2.2.2.2.1.2.2.2.1, v.2.2.2.2.1.2.2.2.2.1, v.2.2.2.2.1.2.2.2.2.2.1, (v.2.2.2.2.1.2.2.2.2.2.2.1 ++ ([(v.2.2.2.2.2.1, (List.take ((Int.toNat (IntKind.wrap .i64 ((IntKind.wrap .i64 (v.2.2.2.2.2.2.1 + (IntKind.wrap .i64 ((8:Int) * (IntKind.wrap .i64 (List.getD v.2.1 (Int.toNat (IntKind.wrap .i64 (v.2.2.2.2.2.2.1 + (1:Int)))) (0:Int))))))) + (8:Int)))) - (Int.toNat (IntKind.wrap .i64 (v.2.2.2.2.2.2.1 + (2:Int))))) (List.drop (Int.toNat (IntKind.wrap .i64 (v.2.2.2.2.2.2.1 + (2:Int)))) v.2.1)), ())] : List D_Ext)), v.2.2.2.2.1.2.2.2.2.2.2.2), (IntKind.wrap .i64 (List.getD v.2.1 (Int.toNat v.2.2.2.2.2.2.1) (0:Int))), (IntKind.wrap .i64 ((IntKind.wrap .i64 (v.2.2.2.2.2.2.1 + (IntKind.wrap .i64 ((8:Int) * (IntKind.wrap .i64 (List.getD v.2.1 (Int.toNat (IntKind.wrap .i64 (v.2.2.2.2.2.2.1 + (1:Int)))) (0:Int))))))) + (8:Int))), ())
 else none
 else none
 else none
 else none
 else none
 else none
 else none
 else none
 else none
 else
 some (Sum.inl ((), zzS, ([] : List Int), (5:Int), ()))
 else none
 else none
 else
 some (Sum.inl ((), zzS, ([] : List Int), (5:Int), ()))
 else
 some (Sum.inl ((), zzS, ([] : List Int), (5:Int), ()))
 else
 some (Sum.inr ((), v.2))
def spec_SixRead (k : Nat) (x0 : (List Int)) : Option ((D_Six × ((List Int) × (Int × Unit))) × Unit) :=
 bif (decide ((1600:Int) < (((List.length x0) : Nat) : Int))) then
 some ((zzS, ([] : List Int), (1:Int), ()), ())
 else
 bif (decide ((((List.length x0) : Nat) : Int) < (40:Int))) then
 some ((zzS, ([] : List Int), (2:Int), ()), ())
 else
 bif (decide ((0:Int) < (((List.length x0) : Nat) : Int))) then
 bif (decide ((0:Nat) < (List.length x0))) then
 bif (!(decide ((IntKind.wrap .u8 (Int.tdiv (List.getD x0 (0:Nat) (0:Int)) (16:Int))) = (6:Int)))) then
 some ((zzS, ([] : List Int), (3:Int), ()), ())
 else
 (spec_Be16 x0 (4:Int)).bind fun t1 =>
 bif (!(decide ((1500:Int) < (IntKind.wrap .i64 ((40:Int) + t1.1.1))))) then
 bif (decide ((((List.length x0) : Nat) : Int) < (IntKind.wrap .i64 ((40:Int) + t1.1.1)))) then
 some ((zzS, ([] : List Int), (4:Int), ()), ())
 else
 (spec_Be32 k x0 (0:Int)).bind fun t2 =>
 bif (decide ((7:Int) < (((List.length x0) : Nat) : Int))) then
 bif (decide ((7:Nat) < (List.length x0))) then
 bif (decide ((24:Int) ≤ (((List.length x0) : Nat) : Int))) then
 (spec_AddrOf k (List.take (16:Nat) (List.drop (8:Nat) x0))).bind fun t3 =>
 bif (decide ((40:Int) ≤ (((List.length x0) : Nat) : Int))) then
 (spec_AddrOf k (List.take (16:Nat) (List.drop (24:Nat) x0))).bind fun t4 =>
 bif (decide ((6:Int) < (((List.length x0) : Nat) : Int))) then
 bif (decide ((6:Nat) < (List.length x0))) then
 (iter (spec_SixRead_s17) k ((), x0, zzS, (IntKind.wrap .i64 ((40:Int) + t1.1.1)), ((Int.tmod (IntKind.wrap .i64 (Int.tdiv t2.1.1 (1048576:Int))) (256:Int)), (Int.tmod t2.1.1 (1048576:Int)), (IntKind.wrap .i64 (List.getD x0 (7:Nat) (0:Int))), (0:Int), t3.1.1, t4.1.1, ([] : List D_Ext), ([] : List Int), ()), (IntKind.wrap .i64 (List.getD x0 (6:Nat) (0:Int))), (40:Int), ())).bind fun o5 =>
 Sum.elim (fun a6 =>
 some (a6.2, ()))
 (fun b7 =>
 bif (((decide ((0:Int) ≤ b7.2.2.2.2.2.2.1)) && (decide (b7.2.2.2.2.2.2.1 ≤ b7.2.2.2.1))) && (decide (b7.2.2.2.1 ≤ (((List.length b7.2.1) : Nat) : Int)))) then
 bif (decide ((((0:Nat) + (List.length (List.take ((Int.toNat b7.2.2.2.1) - (Int.toNat b7.2.2.2.2.2.2.1)) (List.drop (Int.toNat b7.2.2.2.2.2.2.1) b7.2.1)))) * 1) ≤ (1099511627776:Nat))) then
 bif (((decide ((0:Int) ≤ b7.2.2.2.1)) && (decide (b7.2.2.2.1 ≤ (((List.length b7.2.1) : Nat) : Int)))) && (decide ((((List.length b7.2.1) : Nat) : Int) ≤ (((List.length b7.2.1) : Nat) : Int)))) then
 bif (decide ((((0:Nat) + (List.length (List.take ((List.length b7.2.1) - (Int.toNat b7.2.2.2.1)) (List.drop (Int.toNat b7.2.2.2.1) b7.2.1)))) * 1) ≤ (1099511627776:Nat))) then
 some (((b7.2.2.2.2.1.1, b7.2.2.2.2.1.2.1, b7.2.2.2.2.1.2.2.1, b7.2.2.2.2.2.1, b7.2.2.2.2.1.2.2.2.2.1, b7.2.2.2.2.1.2.2.2.2.2.1, b7.2.2.2.2.1.2.2.2.2.2.2.1, (List.take ((Int.toNat b7.2.2.2.1) - (Int.toNat b7.2.2.2.2.2.2.1)) (List.drop (Int.toNat b7.2.2.2.2.2.2.1) b7.2.1)), ()), (List.take ((List.length b7.2.1) - (Int.toNat b7.2.2.2.1)) (List.drop (Int.toNat b7.2.2.2.1) b7.2.1)), (0:Int), ()), ())
 else none
 else none
 else none
 else none) o5
 else none
 else none
 else none
 else none
 else none
 else none
 else
 some ((zzS, ([] : List Int), (4:Int), ()), ())
 else none
 else none
abbrev spec_UpperRead_j0 (k : Nat) (t3 : ((Int × Unit) × Unit)) (x0 : (List Int)) (x2 : D_Addr) (x3 : D_Addr) : Option ((D_Upper × (Int × Unit)) × Unit) :=
 bif (decide (t3.1.1 = (1:Int))) then
 bif (decide ((12:Int) < (((List.length x0) : Nat) : Int))) then
 bif (decide ((12:Nat) < (List.length x0))) then
 bif (!(decide ((IntKind.wrap .i64 ((4:Int) * (IntKind.wrap .i64 (Int.tdiv (IntKind.wrap .i64 (List.getD x0 (12:Nat) (0:Int))) (16:Int))))) < (20:Int)))) then
 bif (decide ((((List.length x0) : Nat) : Int) < (IntKind.wrap .i64 ((4:Int) * (IntKind.wrap .i64 (Int.tdiv (IntKind.wrap .i64 (List.getD x0 (12:Nat) (0:Int))) (16:Int))))))) then
 some ((zzU, (4:Int), ()), ())
 else
 (spec_Be16 x0 (0:Int)).bind fun t4 =>
 (spec_Be16 x0 (2:Int)).bind fun t5 =>
 (spec_Be32 k x0 (4:Int)).bind fun t6 =>
 (spec_Be32 k x0 (8:Int)).bind fun t7 =>
 (spec_Be16 x0 (12:Int)).bind fun t8 =>
 (spec_Be16 x0 (14:Int)).bind fun t9 =>
 (spec_Be16 x0 (16:Int)).bind fun t10 =>
 (spec_Be16 x0 (18:Int)).bind fun t11 =>
 bif ((decide ((20:Int) ≤ (IntKind.wrap .i64 ((4:Int) * (IntKind.wrap .i64 (Int.tdiv (IntKind.wrap .i64 (List.getD x0 (12:Nat) (0:Int))) (16:Int))))))) && (decide ((IntKind.wrap .i64 ((4:Int) * (IntKind.wrap .i64 (Int.tdiv (IntKind.wrap .i64 (List.getD x0 (12:Nat) (0:Int))) (16:Int))))) ≤ (((List.length x0) : Nat) : Int)))) then
 bif (decide ((((0:Nat) + (List.length (List.take ((Int.toNat (IntKind.wrap .i64 ((4:Int) * (IntKind.wrap .i64 (Int.tdiv (IntKind.wrap .i64 (List.getD x0 (12:Nat) (0:Int))) (16:Int)))))) - (20:Nat)) (List.drop (20:Nat) x0)))) * 1) ≤ (1099511627776:Nat))) then
 bif (((decide ((0:Int) ≤ (IntKind.wrap .i64 ((4:Int) * (IntKind.wrap .i64 (Int.tdiv (IntKind.wrap .i64 (List.getD x0 (12:Nat) (0:Int))) (16:Int))))))) && (decide ((IntKind.wrap .i64 ((4:Int) * (IntKind.wrap .i64 (Int.tdiv (IntKind.wrap .i64 (List.getD x0 (12:Nat) (0:Int))) (16:Int))))) ≤ (((List.length x0) : Nat) : Int)))) && (decide ((((List.length x0) : Nat) : Int) ≤ (((List.length x0) : Nat) : Int)))) then
 bif (decide ((((0:Nat) + (List.length (List.take ((List.length x0) - (Int.toNat (IntKind.wrap .i64 ((4:Int) * (IntKind.wrap .i64 (Int.tdiv (IntKind.wrap .i64 (List.getD x0 (12:Nat) (0:Int))) (16:Int))))))) (List.drop (Int.toNat (IntKind.wrap .i64 ((4:Int) * (IntKind.wrap .i64 (Int.tdiv (IntKind.wrap .i64 (List.getD x0 (12:Nat) (0:Int))) (16:Int)))))) x0)))) * 1) ≤ (1099511627776:Nat))) then
 (spec_UpperSum k (t3.1.1, t4.1.1, t5.1.1, t6.1.1, t7.1.1, (Int.tmod t8.1.1 (4096:Int)), t9.1.1, t11.1.1, (0:Int), (0:Int), (0:Int), false, (List.take ((Int.toNat (IntKind.wrap .i64 ((4:Int) * (IntKind.wrap .i64 (Int.tdiv (IntKind.wrap .i64 (List.getD x0 (12:Nat) (0:Int))) (16:Int)))))) - (20:Nat)) (List.drop (20:Nat) x0)), (List.take ((List.length x0) - (Int.toNat (IntKind.wrap .i64 ((4:Int) * (IntKind.wrap .i64 (Int.tdiv (IntKind.wrap .i64 (List.getD x0 (12:Nat) (0:Int))) (16:Int))))))) (List.drop (Int.toNat (IntKind.wrap .i64 ((4:Int) * (IntKind.wrap .i64 (Int.tdiv (IntKind.wrap .i64 (List.getD x0 (12:Nat) (0:Int))) (16:Int)))))) x0)), ()) x2 x3).bind fun t12 =>
 bif (!(decide (t10.1.1 = t12.1.1))) then
 some ((zzU, (6:Int), ()), ())
 else
 some (((t3.1.1, t4.1.1, t5.1.1, t6.1.1, t7.1.1, (Int.tmod t8.1.1 (4096:Int)), t9.1.1, t11.1.1, (0:Int), (0:Int), (0:Int), false, (List.take ((Int.toNat (IntKind.wrap .i64 ((4:Int) * (IntKind.wrap .i64 (Int.tdiv (IntKind.wrap .i64 (List.getD x0 (12:Nat) (0:Int))) (16:Int)))))) - (20:Nat)) (List.drop (20:Nat) x0)), (List.take ((List.length x0) - (Int.toNat (IntKind.wrap .i64 ((4:Int) * (IntKind.wrap .i64 (Int.tdiv (IntKind.wrap .i64 (List.getD x0 (12:Nat) (0:Int))) (16:Int))))))) (List.drop (Int.toNat (IntKind.wrap .i64 ((4:Int) * (IntKind.wrap .i64 (Int.tdiv (IntKind.wrap .i64 (List.getD x0 (12:Nat) (0:Int))) (16:Int)))))) x0)), ()), (0:Int), ()), ())
 else none
 else none
 else none
 else none
 else
 some ((zzU, (4:Int), ()), ())
 else none
 else none
 else
 bif (decide (t3.1.1 = (2:Int))) then
 (spec_Be16 x0 (4:Int)).bind fun t13 =>
 bif (!(decide (t13.1.1 = (((List.length x0) : Nat) : Int)))) then
 some ((zzU, (5:Int), ()), ())
 else
 (spec_Be16 x0 (0:Int)).bind fun t14 =>
 (spec_Be16 x0 (2:Int)).bind fun t15 =>
 (spec_Be16 x0 (6:Int)).bind fun t16 =>
 bif (decide (t16.1.1 = (0:Int))) then
 bif ((decide ((8:Int) ≤ (((List.length x0) : Nat) : Int))) && (decide ((((List.length x0) : Nat) : Int) ≤ (((List.length x0) : Nat) : Int)))) then
 bif (decide ((((0:Nat) + (List.length (List.take ((List.length x0) - (8:Nat)) (List.drop (8:Nat) x0)))) * 1) ≤ (1099511627776:Nat))) then
 (spec_UpperSum k (t3.1.1, t14.1.1, t15.1.1, (0:Int), (0:Int), (0:Int), (0:Int), (0:Int), (0:Int), (0:Int), (0:Int), (decide (x2.1 = (4:Int))), ([] : List Int), (List.take ((List.length x0) - (8:Nat)) (List.drop (8:Nat) x0)), ()) x2 x3).bind fun t17 =>
 bif (!(decide (t16.1.1 = t17.1.1))) then
 some ((zzU, (6:Int), ()), ())
 else
 some (((t3.1.1, t14.1.1, t15.1.1, (0:Int), (0:Int), (0:Int), (0:Int), (0:Int), (0:Int), (0:Int), (0:Int), (decide (x2.1 = (4:Int))), ([] : List Int), (List.take ((List.length x0) - (8:Nat)) (List.drop (8:Nat) x0)), ()), (0:Int), ()), ())
 else none
 else none
 else
 bif ((decide ((8:Int) ≤ (((List.length x0) : Nat) : Int))) && (decide ((((List.length x0) : Nat) : Int) ≤ (((List.length x0) : Nat) : Int)))) then
 bif (decide ((((0:Nat) + (List.length (List.take ((List.length x0) - (8:Nat)) (List.drop (8:Nat) x0)))) * 1) ≤ (1099511627776:Nat))) then
 (spec_UpperSum k (t3.1.1, t14.1.1, t15.1.1, (0:Int), (0:Int), (0:Int), (0:Int), (0:Int), (0:Int), (0:Int), (0:Int), false, ([] : List Int), (List.take ((List.length x0) - (8:Nat)) (List.drop (8:Nat) x0)), ()) x2 x3).bind fun t18 =>
 bif (!(decide (t16.1.1 = t18.1.1))) then
 some ((zzU, (6:Int), ()), ())
 else
 some (((t3.1.1, t14.1.1, t15.1.1, (0:Int), (0:Int), (0:Int), (0:Int), (0:Int), (0:Int), (0:Int), (0:Int), false, ([] : List Int), (List.take ((List.length x0) - (8:Nat)) (List.drop (8:Nat) x0)), ()), (0:Int), ()), ())
 else none
 else none
 else
 bif (decide (t3.1.1 = (3:Int))) then
 bif (decide ((0:Int) < (((List.length x0) : Nat) : Int))) then
 bif (decide ((0:Nat) < (List.length x0))) then
 bif (decide ((1:Int) < (((List.length x0) : Nat) : Int))) then
 bif (decide ((1:Nat) < (List.length x0))) then
 (spec_Be16 x0 (2:Int)).bind fun t19 =>
 (spec_Be32 k x0 (4:Int)).bind fun t20 =>
 bif ((decide ((8:Int) ≤ (((List.length x0) : Nat) : Int))) && (decide ((((List.length x0) : Nat) : Int) ≤ (((List.length x0) : Nat) : Int)))) then
 bif (decide ((((0:Nat) + (List.length (List.take ((List.length x0) - (8:Nat)) (List.drop (8:Nat) x0)))) * 1) ≤ (1099511627776:Nat))) then
 (spec_UpperSum k (t3.1.1, (0:Int), (0:Int), (0:Int), (0:Int), (0:Int), (0:Int), (0:Int), (IntKind.wrap .i64 (List.getD x0 (0:Nat) (0:Int))), (IntKind.wrap .i64 (List.getD x0 (1:Nat) (0:Int))), t20.1.1, false, ([] : List Int), (List.take ((List.length x0) - (8:Nat)) (List.drop (8:Nat) x0)), ()) x2 x3).bind fun t21 =>
 bif (!(decide (t19.1.1 = t21.1.1))) then
 some ((zzU, (6:Int), ()), ())
 else
 some (((t3.1.1, (0:Int), (0:Int), (0:Int), (0:Int), (0:Int), (0:Int), (0:Int), (IntKind.wrap .i64 (List.getD x0 (0:Nat) (0:Int))), (IntKind.wrap .i64 (List.getD x0 (1:Nat) (0:Int))), t20.1.1, false, ([] : List Int), (List.take ((List.length x0) - (8:Nat)) (List.drop (8:Nat) x0)), ()), (0:Int), ()), ())
 else none
 else none
 else none
 else none
 else none
 else none
 else
 bif ((decide ((8:Int) ≤ (((List.length x0) : Nat) : Int))) && (decide ((((List.length x0) : Nat) : Int) ≤ (((List.length x0) : Nat) : Int)))) then
 bif (decide ((((0:Nat) + (List.length (List.take ((List.length x0) - (8:Nat)) (List.drop (8:Nat) x0)))) * 1) ≤ (1099511627776:Nat))) then
 (spec_UpperSum k (t3.1.1, (0:Int), (0:Int), (0:Int), (0:Int), (0:Int), (0:Int), (0:Int), (0:Int), (0:Int), (0:Int), false, ([] : List Int), (List.take ((List.length x0) - (8:Nat)) (List.drop (8:Nat) x0)), ()) x2 x3).bind fun t22 =>
 bif (!(decide ((0:Int) = t22.1.1))) then
 some ((zzU, (6:Int), ()), ())
 else
 some (((t3.1.1, (0:Int), (0:Int), (0:Int), (0:Int), (0:Int), (0:Int), (0:Int), (0:Int), (0:Int), (0:Int), false, ([] : List Int), (List.take ((List.length x0) - (8:Nat)) (List.drop (8:Nat) x0)), ()), (0:Int), ()), ())
 else none
 else none
def spec_UpperRead (k : Nat) (x0 : (List Int)) (x1 : Int) (x2 : D_Addr) (x3 : D_Addr) : Option ((D_Upper × (Int × Unit)) × Unit) :=
 bif (decide ((1500:Int) < (((List.length x0) : Nat) : Int))) then
 some ((zzU, (1:Int), ()), ())
 else
 (spec_l07Pair x2 x3).bind fun t1 =>
 bif (!(!t1.1.1)) then
 (spec_l05In x1 (255:Int)).bind fun t2 =>
 bif (!t2.1.1) then
 some ((zzU, (2:Int), ()), ())
 else
 (spec_UpperKind x1 x2.1).bind fun t3 =>
 bif (decide (t3.1.1 = (0:Int))) then
 bif (decide ((((0:Nat) + (List.length x0)) * 1) ≤ (1099511627776:Nat))) then
 some (((t3.1.1, (0:Int), (0:Int), (0:Int), (0:Int), (0:Int), (0:Int), (0:Int), (0:Int), (0:Int), (0:Int), false, ([] : List Int), x0, ()), (0:Int), ()), ())
 else none
 else
 bif (!(decide ((((List.length x0) : Nat) : Int) < (8:Int)))) then
 bif (decide (t3.1.1 = (1:Int))) then
 bif (decide ((((List.length x0) : Nat) : Int) < (20:Int))) then
 some ((zzU, (3:Int), ()), ())
 else
 spec_UpperRead_j0 k t3 x0 x2 x3
 else
 spec_UpperRead_j0 k t3 x0 x2 x3
 else
 some ((zzU, (3:Int), ()), ())
 else
 some ((zzU, (2:Int), ()), ())
def spec_PacketRead (k : Nat) (x0 : (List Int)) : Option ((D_Packet × (Int × Unit)) × Unit) :=
 (spec_EtherRead k x0).bind fun t1 =>
 bif (!(decide (t1.1.2.1 = (0:Int)))) then
 some ((zzP, (IntKind.wrap .i64 ((10:Int) + t1.1.2.1)), ()), ())
 else
 bif (decide (t1.1.1.2.2.2.1 = (2048:Int))) then
 (spec_FourRead k t1.1.1.2.2.2.2.1).bind fun t2 =>
 bif (!(decide (t2.1.2.2.1 = (0:Int)))) then
 some ((zzP, (IntKind.wrap .i64 ((20:Int) + t2.1.2.2.1)), ()), ())
 else
 (spec_FourPiece t2.1.1).bind fun t3 =>
 bif t3.1.1 then
 some ((((4:Int), (t1.1.1.1, t1.1.1.2.1, t1.1.1.2.2.1, t1.1.1.2.2.2.1, ([] : List Int), ()), (t2.1.1.1, t2.1.1.2.1, t2.1.1.2.2.1, t2.1.1.2.2.2.1, t2.1.1.2.2.2.2.1, t2.1.1.2.2.2.2.2.1, t2.1.1.2.2.2.2.2.2.1, t2.1.1.2.2.2.2.2.2.2.1, t2.1.1.2.2.2.2.2.2.2.2.1, t2.1.1.2.2.2.2.2.2.2.2.2.1, ([] : List Int), ()), zzS, ((0:Int), (0:Int), (0:Int), (0:Int), (0:Int), (0:Int), (0:Int), (0:Int), (0:Int), (0:Int), (0:Int), false, ([] : List Int), t2.1.1.2.2.2.2.2.2.2.2.2.2), t2.1.2.1, ()), (0:Int), ()), ())
 else
 (spec_l08Src ((4:Int), (t1.1.1.1, t1.1.1.2.1, t1.1.1.2.2.1, t1.1.1.2.2.2.1, ([] : List Int), ()), (t2.1.1.1, t2.1.1.2.1, t2.1.1.2.2.1, t2.1.1.2.2.2.1, t2.1.1.2.2.2.2.1, t2.1.1.2.2.2.2.2.1, t2.1.1.2.2.2.2.2.2.1, t2.1.1.2.2.2.2.2.2.2.1, t2.1.1.2.2.2.2.2.2.2.2.1, t2.1.1.2.2.2.2.2.2.2.2.2.1, ([] : List Int), ()), zzS, zzU, t2.1.2.1, ())).bind fun t4 =>
 (spec_l08Dst ((4:Int), (t1.1.1.1, t1.1.1.2.1, t1.1.1.2.2.1, t1.1.1.2.2.2.1, ([] : List Int), ()), (t2.1.1.1, t2.1.1.2.1, t2.1.1.2.2.1, t2.1.1.2.2.2.1, t2.1.1.2.2.2.2.1, t2.1.1.2.2.2.2.2.1, t2.1.1.2.2.2.2.2.2.1, t2.1.1.2.2.2.2.2.2.2.1, t2.1.1.2.2.2.2.2.2.2.2.1, t2.1.1.2.2.2.2.2.2.2.2.2.1, ([] : List Int), ()), zzS, zzU, t2.1.2.1, ())).bind fun t5 =>
 (spec_UpperRead k t2.1.1.2.2.2.2.2.2.2.2.2.2.1 t2.1.1.2.2.2.2.2.2.1 t4.1.1 t5.1.1).bind fun t6 =>
 bif (!(decide (t6.1.2.1 = (0:Int)))) then
 some ((zzP, (IntKind.wrap .i64 ((40:Int) + t6.1.2.1)), ()), ())
 else
 some ((((4:Int), (t1.1.1.1, t1.1.1.2.1, t1.1.1.2.2.1, t1.1.1.2.2.2.1, ([] : List Int), ()), (t2.1.1.1, t2.1.1.2.1, t2.1.1.2.2.1, t2.1.1.2.2.2.1, t2.1.1.2.2.2.2.1, t2.1.1.2.2.2.2.2.1, t2.1.1.2.2.2.2.2.2.1, t2.1.1.2.2.2.2.2.2.2.1, t2.1.1.2.2.2.2.2.2.2.2.1, t2.1.1.2.2.2.2.2.2.2.2.2.1, ([] : List Int), ()), zzS, t6.1.1, t2.1.2.1, ()), (0:Int), ()), ())
 else
 bif (decide (t1.1.1.2.2.2.1 = (34525:Int))) then
 (spec_SixRead k t1.1.1.2.2.2.2.1).bind fun t7 =>
 bif (!(decide (t7.1.2.2.1 = (0:Int)))) then
 some ((zzP, (IntKind.wrap .i64 ((30:Int) + t7.1.2.2.1)), ()), ())
 else
 (spec_l08Src ((6:Int), (t1.1.1.1, t1.1.1.2.1, t1.1.1.2.2.1, t1.1.1.2.2.2.1, ([] : List Int), ()), zzF, (t7.1.1.1, t7.1.1.2.1, t7.1.1.2.2.1, t7.1.1.2.2.2.1, t7.1.1.2.2.2.2.1, t7.1.1.2.2.2.2.2.1, t7.1.1.2.2.2.2.2.2.1, ([] : List Int), ()), zzU, t7.1.2.1, ())).bind fun t8 =>
 (spec_l08Dst ((6:Int), (t1.1.1.1, t1.1.1.2.1, t1.1.1.2.2.1, t1.1.1.2.2.2.1, ([] : List Int), ()), zzF, (t7.1.1.1, t7.1.1.2.1, t7.1.1.2.2.1, t7.1.1.2.2.2.1, t7.1.1.2.2.2.2.1, t7.1.1.2.2.2.2.2.1, t7.1.1.2.2.2.2.2.2.1, ([] : List Int), ()), zzU, t7.1.2.1, ())).bind fun t9 =>
 (spec_UpperRead k t7.1.1.2.2.2.2.2.2.2.1 t7.1.1.2.2.2.1 t8.1.1 t9.1.1).bind fun t10 =>
 bif (!(decide (t10.1.2.1 = (0:Int)))) then
 some ((zzP, (IntKind.wrap .i64 ((40:Int) + t10.1.2.1)), ()), ())
 else
 some ((((6:Int), (t1.1.1.1, t1.1.1.2.1, t1.1.1.2.2.1, t1.1.1.2.2.2.1, ([] : List Int), ()), zzF, (t7.1.1.1, t7.1.1.2.1, t7.1.1.2.2.1, t7.1.1.2.2.2.1, t7.1.1.2.2.2.2.1, t7.1.1.2.2.2.2.2.1, t7.1.1.2.2.2.2.2.2.1, ([] : List Int), ()), t10.1.1, t7.1.2.1, ()), (0:Int), ()), ())
 else
 some ((zzP, (50:Int), ()), ())
def laws_bytesOf (x0 : (List Int)) : Option (((List Int) × Unit) × Unit) :=
 bif (decide ((((0:Nat) + (List.length x0)) * 1) ≤ (1099511627776:Nat))) then
 some ((x0, ()), ())
 else none
def impl_beOf_s3 (rec : (Unit × (Int × D_l01Cur)) → Option ((Unit × (Int × Unit)))) (v : (Unit × (Int × D_l01Cur))) : Option ((Unit × (Int × Unit))) :=
 bif (decide (v.2.2.2.2.1 < v.2.2.2.1)) then
 bif ((decide ((0:Int) ≤ v.2.2.2.2.1)) && (decide (v.2.2.2.2.1 < (((List.length v.2.2.1) : Nat) : Int)))) then
 bif (decide ((Int.toNat v.2.2.2.2.1) < (List.length v.2.2.1))) then
 rec ((), (IntKind.wrap .i64 (BitVec.ofInt (IntKind.bits .i64) (IntKind.wrap .i64 (v.2.1 * 2 ^ min (Int.toNat (8:Int)) (IntKind.bits .i64))) ||| BitVec.ofInt (IntKind.bits .i64) (IntKind.wrap .i64 (List.getD v.2.2.1 (Int.toNat v.2.2.2.2.1) (0:Int)))).toNat), v.2.2.1, v.2.2.2.1, (IntKind.wrap .i64 (v.2.2.2.2.1 + (1:Int))), ())
 else none
 else none
 else
 some ((), v.2.1, ())
def impl_beOf (k : Nat) (x0 : (List Int)) : Option ((Int × Unit) × Unit) :=
 (iter (impl_beOf_s3) k ((), (0:Int), x0, (((List.length x0) : Nat) : Int), (0:Int), ())).bind fun o1 =>
 some (o1.2, ())
def impl_within (x0 : Int) (x1 : Int) (x2 : Int) : Option ((Bool × Unit) × Unit) :=
 bif (decide (x1 ≤ x0)) then
 some (((decide (x0 ≤ x2)), ()), ())
 else
 some ((false, ()), ())
def impl_isKind (x0 : Int) : Option ((Bool × Unit) × Unit) :=
 (impl_within x0 (1536:Int) (65535:Int)).bind fun t1 =>
 bif t1.1.1 then
 some (((!(decide (x0 = (33024:Int)))), ()), ())
 else
 some ((false, ()), ())
def impl_headOf (x0 : D_Ether) : Option ((Int × Unit) × Unit) :=
 bif (decide ((0:Int) ≤ x0.2.2.1)) then
 some (((18:Int), ()), ())
 else
 some (((14:Int), ()), ())
def slices_Clone_byte_byte (x0 : (List Int)) : Option (((List Int) × Unit) × Unit) :=
 bif (decide (((0:Nat) + (List.length x0)) * 1 ≤ (1099511627776:Nat))) then some ((x0, ()), ()) else none
def impl_EtherRead (k : Nat) (x0 : (List Int)) : Option ((D_Ether × (Int × Unit)) × Unit) :=
 bif (decide ((1600:Int) < (((List.length x0) : Nat) : Int))) then
 some ((zzE, (1:Int), ()), ())
 else
 bif (decide ((((List.length x0) : Nat) : Int) < (14:Int))) then
 some ((zzE, (2:Int), ()), ())
 else
 bif (decide ((6:Int) ≤ (((List.length x0) : Nat) : Int))) then
 (impl_beOf k (List.take (6:Nat) x0)).bind fun t1 =>
 bif (decide ((12:Int) ≤ (((List.length x0) : Nat) : Int))) then
 (impl_beOf k (List.take (6:Nat) (List.drop (6:Nat) x0))).bind fun t2 =>
 bif (decide ((14:Int) ≤ (((List.length x0) : Nat) : Int))) then
 (impl_beOf k (List.take (2:Nat) (List.drop (12:Nat) x0))).bind fun t3 =>
 bif (decide (t3.1.1 = (33024:Int))) then
 bif (decide ((((List.length x0) : Nat) : Int) < (18:Int))) then
 some ((zzE, (3:Int), ()), ())
 else
 bif (decide ((16:Int) ≤ (((List.length x0) : Nat) : Int))) then
 (impl_beOf k (List.take (2:Nat) (List.drop (14:Nat) x0))).bind fun t4 =>
 bif (decide ((18:Int) ≤ (((List.length x0) : Nat) : Int))) then
 (impl_beOf k (List.take (2:Nat) (List.drop (16:Nat) x0))).bind fun t5 =>
 (impl_isKind t5.1.1).bind fun t6 =>
 bif (!t6.1.1) then
 some ((zzE, (4:Int), ()), ())
 else
 (impl_headOf (t1.1.1, t2.1.1, t4.1.1, t5.1.1, ([] : List Int), ())).bind fun t7 =>
 bif (((decide ((0:Int) ≤ t7.1.1)) && (decide (t7.1.1 ≤ (((List.length x0) : Nat) : Int)))) && (decide ((((List.length x0) : Nat) : Int) ≤ (((List.length x0) : Nat) : Int)))) then
 (slices_Clone_byte_byte (List.take ((List.length x0) - (Int.toNat t7.1.1)) (List.drop (Int.toNat t7.1.1) x0))).bind fun t8 =>
 some (((t1.1.1, t2.1.1, t4.1.1, t5.1.1, t8.1), (0:Int), ()), ())
 else none
 else none
 else none
 else
 (impl_isKind t3.1.1).bind fun t9 =>
 bif (!t9.1.1) then
 some ((zzE, (4:Int), ()), ())
 else
 (impl_headOf (t1.1.1, t2.1.1, (-1:Int), t3.1.1, ([] : List Int), ())).bind fun t10 =>
 bif (((decide ((0:Int) ≤ t10.1.1)) && (decide (t10.1.1 ≤ (((List.length x0) : Nat) : Int)))) && (decide ((((List.length x0) : Nat) : Int) ≤ (((List.length x0) : Nat) : Int)))) then
 (slices_Clone_byte_byte (List.take ((List.length x0) - (Int.toNat t10.1.1)) (List.drop (Int.toNat t10.1.1) x0))).bind fun t11 =>
 some (((t1.1.1, t2.1.1, (-1:Int), t3.1.1, t11.1), (0:Int), ()), ())
 else none
 else none
 else none
 else none
def impl_AddrOf (k : Nat) (x0 : (List Int)) : Option ((D_Addr × (Bool × Unit)) × Unit) :=
 bif (decide ((((List.length x0) : Nat) : Int) = (4:Int))) then
 (impl_beOf k x0).bind fun t1 =>
 some ((((4:Int), (0:Int), (0:Int), (0:Int), t1.1), true, ()), ())
 else
 bif (decide ((((List.length x0) : Nat) : Int) = (16:Int))) then
 bif (decide ((4:Int) ≤ (((List.length x0) : Nat) : Int))) then
 (impl_beOf k (List.take (4:Nat) x0)).bind fun t2 =>
 bif (decide ((8:Int) ≤ (((List.length x0) : Nat) : Int))) then
 (impl_beOf k (List.take (4:Nat) (List.drop (4:Nat) x0))).bind fun t3 =>
 bif (decide ((12:Int) ≤ (((List.length x0) : Nat) : Int))) then
 (impl_beOf k (List.take (4:Nat) (List.drop (8:Nat) x0))).bind fun t4 =>
 bif ((decide ((12:Int) ≤ (((List.length x0) : Nat) : Int))) && (decide ((((List.length x0) : Nat) : Int) ≤ (((List.length x0) : Nat) : Int)))) then
 (impl_beOf k (List.take ((List.length x0) - (12:Nat)) (List.drop (12:Nat) x0))).bind fun t5 =>
 some ((((6:Int), t2.1.1, t3.1.1, t4.1.1, t5.1), true, ()), ())
 else none
 else none
 else none
 else none
 else
 some ((((0:Int), (0:Int), (0:Int), (0:Int), (0:Int), ()), false, ()), ())
def impl_fourOf (k : Nat) (x0 : (List Int)) (x1 : Int) : Option ((D_Four × Unit) × Unit) :=
 bif (decide ((8:Int) ≤ (((List.length x0) : Nat) : Int))) then
 (impl_beOf k (List.take (2:Nat) (List.drop (6:Nat) x0))).bind fun t1 =>
 bif (decide ((1:Int) < (((List.length x0) : Nat) : Int))) then
 bif (decide ((1:Nat) < (List.length x0))) then
 bif (decide ((1:Int) < (((List.length x0) : Nat) : Int))) then
 bif (decide ((1:Nat) < (List.length x0))) then
 bif (decide ((6:Int) ≤ (((List.length x0) : Nat) : Int))) then
 (impl_beOf k (List.take (2:Nat) (List.drop (4:Nat) x0))).bind fun t2 =>
 bif (decide ((8:Int) < (((List.length x0) : Nat) : Int))) then
 bif (decide ((8:Nat) < (List.length x0))) then
 bif (decide ((9:Int) < (((List.length x0) : Nat) : Int))) then
 bif (decide ((9:Nat) < (List.length x0))) then
 bif ((decide ((20:Int) ≤ x1)) && (decide (x1 ≤ (((List.length x0) : Nat) : Int)))) then
 (slices_Clone_byte_byte (List.take ((Int.toNat x1) - (20:Nat)) (List.drop (20:Nat) x0))).bind fun t3 =>
 bif (((decide ((0:Int) ≤ x1)) && (decide (x1 ≤ (((List.length x0) : Nat) : Int)))) && (decide ((((List.length x0) : Nat) : Int) ≤ (((List.length x0) : Nat) : Int)))) then
 (slices_Clone_byte_byte (List.take ((List.length x0) - (Int.toNat x1)) (List.drop (Int.toNat x1) x0))).bind fun t4 =>
 bif (decide ((16:Int) ≤ (((List.length x0) : Nat) : Int))) then
 (impl_AddrOf k (List.take (4:Nat) (List.drop (12:Nat) x0))).bind fun t5 =>
 bif (decide ((20:Int) ≤ (((List.length x0) : Nat) : Int))) then
 (impl_AddrOf k (List.take (4:Nat) (List.drop (16:Nat) x0))).bind fun t6 =>
 some ((((IntKind.wrap .i64 (Int.tdiv (IntKind.wrap .i64 (List.getD x0 (1:Nat) (0:Int))) (4:Int))), (Int.tmod (IntKind.wrap .i64 (List.getD x0 (1:Nat) (0:Int))) (4:Int)), t2.1.1, (IntKind.wrap .i64 (Int.tdiv t1.1.1 (8192:Int))), (Int.tmod t1.1.1 (8192:Int)), (IntKind.wrap .i64 (List.getD x0 (8:Nat) (0:Int))), (IntKind.wrap .i64 (List.getD x0 (9:Nat) (0:Int))), t5.1.1, t6.1.1, t3.1.1, t4.1), ()), ())
 else none
 else none
 else none
 else none
 else none
 else none
 else none
 else none
 else none
 else none
 else none
 else none
 else none
 else none
def impl_isWord (x0 : Int) : Option ((Bool × Unit) × Unit) :=
 (impl_within x0 (0:Int) (65535:Int)).bind fun t1 =>
 some (t1.1, ())
def impl_isByte (x0 : Int) : Option ((Bool × Unit) × Unit) :=
 (impl_within x0 (0:Int) (255:Int)).bind fun t1 =>
 some (t1.1, ())
def impl_isLong (x0 : Int) : Option ((Bool × Unit) × Unit) :=
 (impl_within x0 (0:Int) (4294967295:Int)).bind fun t1 =>
 some (t1.1, ())
def impl_AddrOk (x0 : D_Addr) : Option ((Bool × Unit) × Unit) :=
 bif (decide (x0.1 = (4:Int))) then
 bif (decide (x0.2.1 = (0:Int))) then
 bif (decide (x0.2.2.1 = (0:Int))) then
 bif (decide (x0.2.2.2.1 = (0:Int))) then
 (impl_isLong x0.2.2.2.2.1).bind fun t1 =>
 some (t1.1, ())
 else
 some ((false, ()), ())
 else
 some ((false, ()), ())
 else
 some ((false, ()), ())
 else
 bif (decide (x0.1 = (6:Int))) then
 (impl_isLong x0.2.1).bind fun t2 =>
 bif t2.1.1 then
 (impl_isLong x0.2.2.1).bind fun t3 =>
 bif t3.1.1 then
 (impl_isLong x0.2.2.2.1).bind fun t4 =>
 bif t4.1.1 then
 (impl_isLong x0.2.2.2.2.1).bind fun t5 =>
 some (t5.1, ())
 else
 some ((false, ()), ())
 else
 some ((false, ()), ())
 else
 some ((false, ()), ())
 else
 some ((false, ()), ())
def impl_isAddrOf (x0 : D_Addr) (x1 : Int) : Option ((Bool × Unit) × Unit) :=
 (impl_AddrOk x0).bind fun t1 =>
 bif t1.1.1 then
 some (((decide (x0.1 = x1)), ()), ())
 else
 some ((false, ()), ())
def impl_fourHead (x0 : D_Four) : Option ((Int × Unit) × Unit) :=
 some (((IntKind.wrap .i64 ((20:Int) + (((List.length x0.2.2.2.2.2.2.2.2.2.1) : Nat) : Int))), ()), ())
def impl_fourSize (x0 : D_Four) : Option ((Int × Unit) × Unit) :=
 (impl_fourHead x0).bind fun t1 =>
 some (((IntKind.wrap .i64 (t1.1.1 + (((List.length x0.2.2.2.2.2.2.2.2.2.2.1) : Nat) : Int))), ()), ())
def impl_FourOk (x0 : D_Four) : Option ((Bool × Unit) × Unit) :=
 (impl_within x0.1 (0:Int) (63:Int)).bind fun t1 =>
 bif (!(!t1.1.1)) then
 (impl_within x0.2.1 (0:Int) (3:Int)).bind fun t2 =>
 bif (!(!t2.1.1)) then
 (impl_isWord x0.2.2.1).bind fun t3 =>
 bif (!(!t3.1.1)) then
 (impl_within x0.2.2.2.1 (0:Int) (7:Int)).bind fun t4 =>
 bif (!(!t4.1.1)) then
 (impl_within x0.2.2.2.2.1 (0:Int) (8191:Int)).bind fun t5 =>
 bif (!(!t5.1.1)) then
 (impl_isByte x0.2.2.2.2.2.1).bind fun t6 =>
 bif (!(!t6.1.1)) then
 (impl_isByte x0.2.2.2.2.2.2.1).bind fun t7 =>
 bif (!t7.1.1) then
 some ((false, ()), ())
 else
 (impl_isAddrOf x0.2.2.2.2.2.2.2.1 (4:Int)).bind fun t8 =>
 bif t8.1.1 then
 (impl_isAddrOf x0.2.2.2.2.2.2.2.2.1 (4:Int)).bind fun t9 =>
 bif t9.1.1 then
 bif (decide ((((List.length x0.2.2.2.2.2.2.2.2.2.1) : Nat) : Int) ≤ (40:Int))) then
 bif (decide ((Int.tmod (((List.length x0.2.2.2.2.2.2.2.2.2.1) : Nat) : Int) (4:Int)) = (0:Int))) then
 (impl_fourSize x0).bind fun t10 =>
 some (((decide (t10.1.1 ≤ (1500:Int))), ()), ())
 else
 some ((false, ()), ())
 else
 some ((false, ()), ())
 else
 some ((false, ()), ())
 else
 some ((false, ()), ())
 else
 some ((false, ()), ())
 else
 some ((false, ()), ())
 else
 some ((false, ()), ())
 else
 some ((false, ()), ())
 else
 some ((false, ()), ())
 else
 some ((false, ()), ())
def impl_put_s3 (rec : (Unit × (Int × (Int × D_l01Cur))) → Option ((Unit × ((List Int) × Unit)))) (v : (Unit × (Int × (Int × D_l01Cur)))) : Option ((Unit × ((List Int) × Unit))) :=
 bif (decide (v.2.2.2.2.2.1 < v.2.2.2.2.1)) then
 bif (decide ((0:Int) ≤ (IntKind.wrap .i64 ((8:Int) * (IntKind.wrap .i64 ((IntKind.wrap .i64 (v.2.2.1 - (1:Int))) - v.2.2.2.2.2.1)))))) then
 bif ((decide ((0:Int) ≤ v.2.2.2.2.2.1)) && (decide (v.2.2.2.2.2.1 < (((List.length v.2.2.2.1) : Nat) : Int)))) then
 bif (decide ((Int.toNat v.2.2.2.2.2.1) < (List.length v.2.2.2.1))) then
 let y1 : (List Int) := (List.set v.2.2.2.1 (Int.toNat v.2.2.2.2.2.1) (IntKind.wrap .u8 (Int.fdiv v.2.1 (2 ^ min (Int.toNat (IntKind.wrap .i64 ((8:Int) * (IntKind.wrap .i64 ((IntKind.wrap .i64 (v.2.2.1 - (1:Int))) - v.2.2.2.2.2.1))))) (IntKind.bits .i64)))))
 rec ((), v.2.1, v.2.2.1, y1, v.2.2.2.2.1, (IntKind.wrap .i64 (v.2.2.2.2.2.1 + (1:Int))), ())
 else none
 else none
 else none
 else
 some ((), v.2.2.2.1, ())
def impl_put (k : Nat) (x0 : Int) (x1 : Int) : Option (((List Int) × Unit) × Unit) :=
 bif (((decide ((0:Int) ≤ x1)) && (decide (x1 ≤ x1))) && (decide (((1:Int) * x1) ≤ (1099511627776:Int)))) then
 (iter (impl_put_s3) k ((), x0, x1, (List.replicate (Int.toNat x1) (0:Int)), (((List.length (List.replicate (Int.toNat x1) (0:Int))) : Nat) : Int), (0:Int), ())).bind fun o1 =>
 some (o1.2, ())
 else none
def impl_Put16 (k : Nat) (x0 : Int) : Option (((List Int) × Unit) × Unit) :=
 (impl_put k x0 (2:Int)).bind fun t1 =>
 some (t1.1, ())
def impl_Put32 (k : Nat) (x0 : Int) : Option (((List Int) × Unit) × Unit) :=
 (impl_put k x0 (4:Int)).bind fun t1 =>
 some (t1.1, ())
def slices_Concat_byte_byte_s3 (rec : (Unit × ((List (List Int)) × (Int × ((List (List Int)) × (Int × (Int × Unit)))))) → Option ((Unit × ((List (List Int)) × (Int × Unit))))) (v : (Unit × ((List (List Int)) × (Int × ((List (List Int)) × (Int × (Int × Unit))))))) : Option ((Unit × ((List (List Int)) × (Int × Unit)))) :=
 bif (decide (v.2.2.2.2.2.1 < v.2.2.2.2.1)) then
 bif ((decide ((0:Int) ≤ v.2.2.2.2.2.1)) && (decide (v.2.2.2.2.2.1 < (((List.length v.2.2.2.1) : Nat) : Int)))) then
 bif (decide ((Int.toNat v.2.2.2.2.2.1) < (List.length v.2.2.2.1))) then
 bif (decide ((IntKind.wrap .i64 (v.2.2.1 + (((List.length (List.getD v.2.2.2.1 (Int.toNat v.2.2.2.2.2.1) [])) : Nat) : Int))) < (0:Int))) then
 none
 else
 rec ((), v.2.1, (IntKind.wrap .i64 (v.2.2.1 + (((List.length (List.getD v.2.2.2.1 (Int.toNat v.2.2.2.2.2.1) [])) : Nat) : Int))), v.2.2.2.1, v.2.2.2.2.1, (IntKind.wrap .i64 (v.2.2.2.2.2.1 + (1:Int))), ())
 else none
 else none
 else
 some ((), v.2.1, v.2.2.1, ())
def slices_Concat_byte_byte_s11 (rec : (Unit × ((List Int) × ((List (List Int)) × (Int × (Int × Unit))))) → Option ((Unit × ((List Int) × Unit)))) (v : (Unit × ((List Int) × ((List (List Int)) × (Int × (Int × Unit)))))) : Option ((Unit × ((List Int) × Unit))) :=
 bif (decide (v.2.2.2.2.1 < v.2.2.2.1)) then
 bif ((decide ((0:Int) ≤ v.2.2.2.2.1)) && (decide (v.2.2.2.2.1 < (((List.length v.2.2.1) : Nat) : Int)))) then
 bif (decide ((Int.toNat v.2.2.2.2.1) < (List.length v.2.2.1))) then
 bif (decide ((((List.length v.2.1) + (List.length (List.getD v.2.2.1 (Int.toNat v.2.2.2.2.1) []))) * 1) ≤ (1099511627776:Nat))) then
 rec ((), (v.2.1 ++ (List.getD v.2.2.1 (Int.toNat v.2.2.2.2.1) [])), v.2.2.1, v.2.2.2.1, (IntKind.wrap .i64 (v.2.2.2.2.1 + (1:Int))), ())
 else none
 else none
 else none
 else
 some ((), v.2.1, ())
def slices_Concat_byte_byte (k : Nat) (x0 : (List (List Int))) : Option (((List Int) × Unit) × Unit) :=
 (iter (slices_Concat_byte_byte_s3) k ((), x0, (0:Int), x0, (((List.length x0) : Nat) : Int), (0:Int), ())).bind fun o1 =>
 bif (decide (o1.2.2.1 < (0:Int))) then
 none
 else
 bif (decide ((0:Int) < (IntKind.wrap .i64 (o1.2.2.1 - (0:Int))))) then
 bif ((decide ((0:Int) ≤ (IntKind.wrap .i64 (o1.2.2.1 - (0:Int))))) && (decide (((1:Int) * (IntKind.wrap .i64 (o1.2.2.1 - (0:Int)))) ≤ (1099511627776:Int)))) then
 bif (decide ((0:Int) ≤ (((List.length (List.replicate (Int.toNat (IntKind.wrap .i64 (o1.2.2.1 - (0:Int)))) (0:Int))) : Nat) : Int))) then
 (iter (slices_Concat_byte_byte_s11) k ((), (List.take (0:Nat) (List.replicate (Int.toNat (IntKind.wrap .i64 (o1.2.2.1 - (0:Int)))) (0:Int))), o1.2.1, (((List.length o1.2.1) : Nat) : Int), (0:Int), ())).bind fun o2 =>
 some (o2.2, ())
 else none
 else none
 else
 (iter (slices_Concat_byte_byte_s11) k ((), ([] : List Int), o1.2.1, (((List.length o1.2.1) : Nat) : Int), (0:Int), ())).bind fun o3 =>
 some (o3.2, ())
def impl_AddrBytes (k : Nat) (x0 : D_Addr) : Option (((List Int) × Unit) × Unit) :=
 (impl_AddrOk x0).bind fun t1 =>
 bif (!t1.1.1) then
 some ((([] : List Int), ()), ())
 else
 bif (decide (x0.1 = (4:Int))) then
 (impl_Put32 k x0.2.2.2.2.1).bind fun t2 =>
 some (t2.1, ())
 else
 (impl_Put32 k x0.2.1).bind fun t3 =>
 (impl_Put32 k x0.2.2.1).bind fun t4 =>
 (impl_Put32 k x0.2.2.2.1).bind fun t5 =>
 (impl_Put32 k x0.2.2.2.2.1).bind fun t6 =>
 (slices_Concat_byte_byte k ([t3.1.1, t4.1.1, t5.1.1, t6.1.1] : List (List Int))).bind fun t7 =>
 some (t7.1, ())
def impl_Four_head (k : Nat) (x0 : D_Four) (x1 : Int) : Option (((List Int) × Unit) × Unit) :=
 (impl_fourHead x0).bind fun t1 =>
 (impl_Put16 k (IntKind.wrap .i64 ((IntKind.wrap .i64 ((8192:Int) * x0.2.2.2.1)) + x0.2.2.2.2.1))).bind fun t2 =>
 (impl_fourSize x0).bind fun t3 =>
 (impl_Put16 k t3.1.1).bind fun t4 =>
 (impl_Put16 k x0.2.2.1).bind fun t5 =>
 (impl_Put16 k x1).bind fun t6 =>
 (impl_AddrBytes k x0.2.2.2.2.2.2.2.1).bind fun t7 =>
 (impl_AddrBytes k x0.2.2.2.2.2.2.2.2.1).bind fun t8 =>
 (slices_Concat_byte_byte k ([([(IntKind.wrap .u8 (IntKind.wrap .i64 ((64:Int) + (IntKind.wrap .i64 (Int.tdiv t1.1.1 (4:Int)))))), (IntKind.wrap .u8 (IntKind.wrap .i64 ((IntKind.wrap .i64 ((4:Int) * x0.1)) + x0.2.1)))] : List Int), t4.1.1, t5.1.1, t2.1.1, ([(IntKind.wrap .u8 x0.2.2.2.2.2.1), (IntKind.wrap .u8 x0.2.2.2.2.2.2.1)] : List Int), t6.1.1, t7.1.1, t8.1.1, x0.2.2.2.2.2.2.2.2.2.1] : List (List Int))).bind fun t9 =>
 some (t9.1, ())
def impl_sum (x0 : Int) (x1 : Int) : Option ((Int × Unit) × Unit) :=
 bif (decide ((65535:Int) < (IntKind.wrap .i64 (x0 + x1)))) then
 some (((IntKind.wrap .i64 ((IntKind.wrap .i64 (x0 + x1)) - (65535:Int))), ()), ())
 else
 some (((IntKind.wrap .i64 (x0 + x1)), ()), ())
def impl_onesSum_s3 (rec : (Unit × D_l01Cur) → Option ((Unit × (Int × Unit)))) (v : (Unit × D_l01Cur)) : Option ((Unit × (Int × Unit))) :=
 bif (decide (v.2.2.2.1 < (((List.length v.2.1) : Nat) : Int))) then
 bif ((decide ((0:Int) ≤ v.2.2.2.1)) && (decide (v.2.2.2.1 < (((List.length v.2.1) : Nat) : Int)))) then
 bif (decide ((Int.toNat v.2.2.2.1) < (List.length v.2.1))) then
 bif (decide ((IntKind.wrap .i64 (v.2.2.2.1 + (1:Int))) < (((List.length v.2.1) : Nat) : Int))) then
 bif ((decide ((0:Int) ≤ (IntKind.wrap .i64 (v.2.2.2.1 + (1:Int))))) && (decide ((IntKind.wrap .i64 (v.2.2.2.1 + (1:Int))) < (((List.length v.2.1) : Nat) : Int)))) then
 bif (decide ((Int.toNat (IntKind.wrap .i64 (v.2.2.2.1 + (1:Int)))) < (List.length v.2.1))) then
 (impl_sum v.2.2.1 (IntKind.wrap .i64 (BitVec.ofInt (IntKind.bits .i64) (IntKind.wrap .i64 ((IntKind.wrap .i64 (List.getD v.2.1 (Int.toNat v.2.2.2.1) (0:Int))) * 2 ^ min (Int.toNat (8:Int)) (IntKind.bits .i64))) ||| BitVec.ofInt (IntKind.bits .i64) (IntKind.wrap .i64 (List.getD v.2.1 (Int.toNat (IntKind.wrap .i64 (v.2.2.2.1 + (1:Int)))) (0:Int)))).toNat)).bind fun t1 =>
 rec ((), v.2.1, t1.1.1, (IntKind.wrap .i64 (v.2.2.2.1 + (2:Int))), ())
 else none
 else none
 else
 (impl_sum v.2.2.1 (IntKind.wrap .i64 ((IntKind.wrap .i64 (List.getD v.2.1 (Int.toNat v.2.2.2.1) (0:Int))) * 2 ^ min (Int.toNat (8:Int)) (IntKind.bits .i64)))).bind fun t2 =>
 rec ((), v.2.1, t2.1.1, (IntKind.wrap .i64 (v.2.2.2.1 + (2:Int))), ())
 else none
 else none
 else
 some ((), v.2.2.1, ())
def impl_onesSum (k : Nat) (x0 : (List Int)) : Option ((Int × Unit) × Unit) :=
 (iter (impl_onesSum_s3) k ((), x0, (0:Int), (0:Int), ())).bind fun o1 =>
 some (o1.2, ())
def impl_Checksum (k : Nat) (x0 : (List Int)) : Option ((Int × Unit) × Unit) :=
 bif (decide ((2000:Int) < (((List.length x0) : Nat) : Int))) then
 some (((-1:Int), ()), ())
 else
 (impl_onesSum k x0).bind fun t1 =>
 some (((IntKind.wrap .i64 ((65535:Int) - t1.1.1)), ()), ())
def impl_HeadSum (k : Nat) (x0 : D_Four) : Option ((Int × Unit) × Unit) :=
 (impl_FourOk x0).bind fun t1 =>
 bif (!t1.1.1) then
 some (((-1:Int), ()), ())
 else
 (impl_Four_head k x0 (0:Int)).bind fun t2 =>
 (impl_Checksum k t2.1.1).bind fun t3 =>
 some (t3.1, ())
abbrev impl_FourRead_j0 : Option ((D_Four × ((List Int) × (Int × Unit))) × Unit) :=
 some ((zzF, ([] : List Int), (4:Int), ()), ())
abbrev impl_FourRead_j1 : Option ((D_Four × ((List Int) × (Int × Unit))) × Unit) :=
 some ((zzF, ([] : List Int), (5:Int), ()), ())
def impl_FourRead (k : Nat) (x0 : (List Int)) : Option ((D_Four × ((List Int) × (Int × Unit))) × Unit) :=
 bif (decide ((1600:Int) < (((List.length x0) : Nat) : Int))) then
 some ((zzF, ([] : List Int), (1:Int), ()), ())
 else
 bif (decide ((((List.length x0) : Nat) : Int) < (20:Int))) then
 some ((zzF, ([] : List Int), (2:Int), ()), ())
 else
 bif (decide ((0:Int) < (((List.length x0) : Nat) : Int))) then
 bif (decide ((0:Nat) < (List.length x0))) then
 bif (!(decide ((Int.fdiv (List.getD x0 (0:Nat) (0:Int)) (2 ^ min (Int.toNat (4:Int)) (IntKind.bits .u8))) = (4:Int)))) then
 some ((zzF, ([] : List Int), (3:Int), ()), ())
 else
 bif (decide ((0:Int) < (((List.length x0) : Nat) : Int))) then
 bif (decide ((0:Nat) < (List.length x0))) then
 bif (decide ((4:Int) ≤ (((List.length x0) : Nat) : Int))) then
 (impl_beOf k (List.take (2:Nat) (List.drop (2:Nat) x0))).bind fun t1 =>
 bif (!(decide ((IntKind.wrap .i64 ((4:Int) * (IntKind.wrap .i64 (Int.tmod (List.getD x0 (0:Nat) (0:Int)) (16:Int))))) < (20:Int)))) then
 bif (decide ((((List.length x0) : Nat) : Int) < (IntKind.wrap .i64 ((4:Int) * (IntKind.wrap .i64 (Int.tmod (List.getD x0 (0:Nat) (0:Int)) (16:Int))))))) then
 impl_FourRead_j0
 else
 bif (!(decide (t1.1.1 < (IntKind.wrap .i64 ((4:Int) * (IntKind.wrap .i64 (Int.tmod (List.getD x0 (0:Nat) (0:Int)) (16:Int)))))))) then
 bif (!(decide ((1500:Int) < t1.1.1))) then
 bif (decide ((((List.length x0) : Nat) : Int) < t1.1.1)) then
 impl_FourRead_j1
 else
 bif ((decide ((0:Int) ≤ t1.1.1)) && (decide (t1.1.1 ≤ (((List.length x0) : Nat) : Int)))) then
 (impl_fourOf k (List.take (Int.toNat t1.1.1) x0) (IntKind.wrap .i64 ((4:Int) * (IntKind.wrap .i64 (Int.tmod (List.getD x0 (0:Nat) (0:Int)) (16:Int)))))).bind fun t2 =>
 bif (decide ((12:Int) ≤ (((List.length x0) : Nat) : Int))) then
 (impl_beOf k (List.take (2:Nat) (List.drop (10:Nat) x0))).bind fun t3 =>
 (impl_HeadSum k t2.1.1).bind fun t4 =>
 bif (!(decide (t3.1.1 = t4.1.1))) then
 some ((zzF, ([] : List Int), (6:Int), ()), ())
 else
 bif (((decide ((0:Int) ≤ t1.1.1)) && (decide (t1.1.1 ≤ (((List.length x0) : Nat) : Int)))) && (decide ((((List.length x0) : Nat) : Int) ≤ (((List.length x0) : Nat) : Int)))) then
 (slices_Clone_byte_byte (List.take ((List.length x0) - (Int.toNat t1.1.1)) (List.drop (Int.toNat t1.1.1) x0))).bind fun t5 =>
 some ((t2.1.1, t5.1.1, (0:Int), ()), ())
 else none
 else none
 else none
 else
 impl_FourRead_j1
 else
 impl_FourRead_j1
 else
 impl_FourRead_j0
 else none
 else none
 else none
 else none
 else none
def impl_isExtKind (x0 : Int) : Option ((Bool × Unit) × Unit) :=
 bif (!(decide (x0 = (0:Int)))) then
 bif (!(decide (x0 = (43:Int)))) then
 some (((decide (x0 = (60:Int))), ()), ())
 else
 some ((true, ()), ())
 else
 some ((true, ()), ())
def impl_extsRead_s2 (rec : (Unit × (Int × ((List Int) × ((List D_Ext) × Unit)))) → Option ((Unit × ((List D_Ext) × (Int × ((List Int) × (Bool × Unit))))) ⊕ (Unit × (Int × ((List Int) × ((List D_Ext) × Unit)))))) (v : (Unit × (Int × ((List Int) × ((List D_Ext) × Unit))))) : Option ((Unit × ((List D_Ext) × (Int × ((List Int) × (Bool × Unit))))) ⊕ (Unit × (Int × ((List Int) × ((List D_Ext) × Unit))))) :=
 (impl_isExtKind v.2.1).bind fun t7 =>
 bif t7.1.1 then
 bif (!(decide ((((List.length v.2.2.2.1) : Nat) : Int) = (3:Int)))) then
 bif (decide (v.2.1 = (0:Int))) then
 bif (!(decide ((0:Int) < (((List.length v.2.2.2.1) : Nat) : Int)))) then
 bif (!(decide ((((List.length v.2.2.1) : Nat) : Int) < (2:Int)))) then
 bif (decide ((1:Int) < (((List.length v.2.2.1) : Nat) : Int))) then
 bif (decide ((1:Nat) < (List.length v.2.2.1))) then
 bif (decide ((7:Int) < (List.getD v.2.2.1 (1:Nat) (0:Int)))) then
 some (Sum.inl ((), ([] : List D_Ext), (0:Int), ([] : List Int), false, ()))
 else
 bif (decide ((1:Int) < (((List.length v.2.2.1) : Nat) : Int))) then
 bif (decide ((1:Nat) < (List.length v.2.2.1))) then
 bif (decide ((((List.length v.2.2.1) : Nat) : Int) < (IntKind.wrap .i64 ((8:Int) * (IntKind.wrap .i64 ((IntKind.wrap .i64 (List.getD v.2.2.1 (1:Nat) (0:Int))) + (1:Int))))))) then
 some (Sum.inl ((), ([] : List D_Ext), (0:Int), ([] : List Int), false, ()))
 else
 bif ((decide ((2:Int) ≤ (IntKind.wrap .i64 ((8:Int) * (IntKind.wrap .i64 ((IntKind.wrap .i64 (List.getD v.2.2.1 (1:Nat) (0:Int))) + (1:Int))))))) && (decide ((IntKind.wrap .i64 ((8:Int) * (IntKind.wrap .i64 ((IntKind.wrap .i64 (List.getD v.2.2.1 (1:Nat) (0:Int))) + (1:Int))))) ≤ (((List.length v.2.2.1) : Nat) : Int)))) then
 (slices_Clone_byte_byte (List.take ((Int.toNat (IntKind.wrap .i64 ((8:Int) * (IntKind.wrap .i64 ((IntKind.wrap .i64 (List.getD v.2.2.1 (1:Nat) (0:Int))) + (1:Int)))))) - (2:Nat)) (List.drop (2:Nat) v.2.2.1))).bind fun t8 =>
 bif (decide ((((List.length v.2.2.2.1) + (1:Nat)) * 32) ≤ (1099511627776:Nat))) then
 bif (decide ((0:Int) < (((List.length v.2.2.1) : Nat) : Int))) then
 bif (decide ((0:Nat) < (List.length v.2.2.1))) then
 bif (((decide ((0:Int) ≤ (IntKind.wrap .i64 ((8:Int) * (IntKind.wrap .i64 ((IntKind.wrap .i64 (List.getD v.2.2.1 (1:Nat) (0:Int))) + (1:Int))))))) && (decide ((IntKind.wrap .i64 ((8:Int) * (IntKind.wrap .i64 ((IntKind.wrap .i64 (List.getD v.2.2.1 (1:Nat) (0:Int))) + (1:Int))))) ≤ (((List.length v.2.2.1) : Nat) : Int)))) && (decide ((((List.length v.2.2.1) : Nat) : Int) ≤ (((List.length v.2.2.1) : Nat) : Int)))) then
 rec ((), (IntKind.wrap .i64 (List.getD v.2.2.1 (0:Nat) (0:Int))), (List.take ((List.length v.2.2.1) - (Int.toNat (IntKind.wrap .i64 ((8:Int) * (IntKind.wrap .i64 ((IntKind.wrap .i64 (List.getD v.2.2.1 (1:Nat) (0:Int))) + (1:Int))))))) (List.drop (Int.toNat (IntKind.wrap .i64 ((8:Int) * (IntKind.wrap .i64 ((IntKind.wrap .i64 (List.getD v.2.2.1 (1:Nat) (0:Int))) + (1:Int)))))) v.2.2.1)), (v.2.2.2.1 ++ ([(v.2.1, t8.1)] : List D_Ext)), ())
 else none
 else none
 else none
 else none
 else none
 else none
 else none
 else none
 else none
 else
 some (Sum.inl ((), ([] : List D_Ext), (0:Int), ([] : List Int), false, ()))
 else
 some (Sum.inl ((), ([] : List D_Ext), (0:Int), ([] : List Int), false, ()))
 else
 bif (!(decide ((((List.length v.2.2.1) : Nat) : Int) < (2:Int)))) then
 bif (decide ((1:Int) < (((List.length v.2.2.1) : Nat) : Int))) then
 bif (decide ((1:Nat) < (List.length v.2.2.1))) then
 bif (decide ((7:Int) < (List.getD v.2.2.1 (1:Nat) (0:Int)))) then
 some (Sum.inl ((), ([] : List D_Ext), (0:Int), ([] : List Int), false, ()))
 else
 bif (decide ((1:Int) < (((List.length v.2.2.1) : Nat) : Int))) then
 bif (decide ((1:Nat) < (List.length v.2.2.1))) then
 bif (decide ((((List.length v.2.2.1) : Nat) : Int) < (IntKind.wrap .i64 ((8:Int) * (IntKind.wrap .i64 ((IntKind.wrap .i64 (List.getD v.2.2.1 (1:Nat) (0:Int))) + (1:Int))))))) then
 some (Sum.inl ((), ([] : List D_Ext), (0:Int), ([] : List Int), false, ()))
 else
 bif ((decide ((2:Int) ≤ (IntKind.wrap .i64 ((8:Int) * (IntKind.wrap .i64 ((IntKind.wrap .i64 (List.getD v.2.2.1 (1:Nat) (0:Int))) + (1:Int))))))) && (decide ((IntKind.wrap .i64 ((8:Int) * (IntKind.wrap .i64 ((IntKind.wrap .i64 (List.getD v.2.2.1 (1:Nat) (0:Int))) + (1:Int))))) ≤ (((List.length v.2.2.1) : Nat) : Int)))) then
 (slices_Clone_byte_byte (List.take ((Int.toNat (IntKind.wrap .i64 ((8:Int) * (IntKind.wrap .i64 ((IntKind.wrap .i64 (List.getD v.2.2.1 (1:Nat) (0:Int))) + (1:Int)))))) - (2:Nat)) (List.drop (2:Nat) v.2.2.1))).bind fun t9 =>
 bif (decide ((((List.length v.2.2.2.1) + (1:Nat)) * 32) ≤ (1099511627776:Nat))) then
 bif (decide ((0:Int) < (((List.length v.2.2.1) : Nat) : Int))) then
 bif (decide ((0:Nat) < (List.length v.2.2.1))) then
 bif (((decide ((0:Int) ≤ (IntKind.wrap .i64 ((8:Int) * (IntKind.wrap .i64 ((IntKind.wrap .i64 (List.getD v.2.2.1 (1:Nat) (0:Int))) + (1:Int))))))) && (decide ((IntKind.wrap .i64 ((8:Int) * (IntKind.wrap .i64 ((IntKind.wrap .i64 (List.getD v.2.2.1 (1:Nat) (0:Int))) + (1:Int))))) ≤ (((List.length v.2.2.1) : Nat) : Int)))) && (decide ((((List.length v.2.2.1) : Nat) : Int) ≤ (((List.length v.2.2.1) : Nat) : Int)))) then
 rec ((), (IntKind.wrap .i64 (List.getD v.2.2.1 (0:Nat) (0:Int))), (List.take ((List.length v.2.2.1) - (Int.toNat (IntKind.wrap .i64 ((8:Int) * (IntKind.wrap .i64 ((IntKind.wrap .i64 (List.getD v.2.2.1 (1:Nat) (0:Int))) + (1:Int))))))) (List.drop (Int.toNat (IntKind.wrap .i64 ((8:Int) * (IntKind.wrap .i64 ((IntKind.wrap .i64 (List.getD v.2.2.1 (1:Nat) (0:Int))) + (1:Int)))))) v.2.2.1)), (v.2.2.2.1 ++ ([(v.2.1, t9.1)] : List D_Ext)), ())
 else none
 else none
 else none
 else none
 else none
 else none
 else none
 else none
 else none
 else
 some (Sum.inl ((), ([] : List D_Ext), (0:Int), ([] : List Int), false, ()))
 else
 some (Sum.inl ((), ([] : List D_Ext), (0:Int), ([] : List Int), false, ()))
 else
 some (Sum.inr ((), v.2))
def impl_extsRead (k : Nat) (x0 : Int) (x1 : (List Int)) : Option (((List D_Ext) × (Int × ((List Int) × (Bool × Unit)))) × Unit) :=
 (iter (impl_extsRead_s2) k ((), x0, x1, ([] : List D_Ext), ())).bind fun o1 =>
 Sum.elim (fun a2 =>
 some (a2.2, ()))
 (fun b3 =>
 some ((b3.2.2.2.1, b3.2.1, b3.2.2.1, true, ()), ())) o1
abbrev impl_SixRead_j0 : Option ((D_Six × ((List Int) × (Int × Unit))) × Unit) :=
 some ((zzS, ([] : List Int), (4:Int), ()), ())
def impl_SixRead (k : Nat) (x0 : (List Int)) : Option ((D_Six × ((List Int) × (Int × Unit))) × Unit) :=
 bif (decide ((1600:Int) < (((List.length x0) : Nat) : Int))) then
 some ((zzS, ([] : List Int), (1:Int), ()), ())
 else
 bif (decide ((((List.length x0) : Nat) : Int) < (40:Int))) then
 some ((zzS, ([] : List Int), (2:Int), ()), ())
 else
 bif (decide ((0:Int) < (((List.length x0) : Nat) : Int))) then
 bif (decide ((0:Nat) < (List.length x0))) then
 bif (!(decide ((Int.fdiv (List.getD x0 (0:Nat) (0:Int)) (2 ^ min (Int.toNat (4:Int)) (IntKind.bits .u8))) = (6:Int)))) then
 some ((zzS, ([] : List Int), (3:Int), ()), ())
 else
 bif (decide ((6:Int) ≤ (((List.length x0) : Nat) : Int))) then
 (impl_beOf k (List.take (2:Nat) (List.drop (4:Nat) x0))).bind fun t1 =>
 bif (!(decide ((1500:Int) < (IntKind.wrap .i64 ((40:Int) + t1.1.1))))) then
 bif (decide ((((List.length x0) : Nat) : Int) < (IntKind.wrap .i64 ((40:Int) + t1.1.1)))) then
 impl_SixRead_j0
 else
 bif (decide ((6:Int) < (((List.length x0) : Nat) : Int))) then
 bif (decide ((6:Nat) < (List.length x0))) then
 bif ((decide ((40:Int) ≤ (IntKind.wrap .i64 ((40:Int) + t1.1.1)))) && (decide ((IntKind.wrap .i64 ((40:Int) + t1.1.1)) ≤ (((List.length x0) : Nat) : Int)))) then
 (impl_extsRead k (IntKind.wrap .i64 (List.getD x0 (6:Nat) (0:Int))) (List.take ((Int.toNat (IntKind.wrap .i64 ((40:Int) + t1.1.1))) - (40:Nat)) (List.drop (40:Nat) x0))).bind fun t2 =>
 bif (!t2.1.2.2.2.1) then
 some ((zzS, ([] : List Int), (5:Int), ()), ())
 else
 bif (decide ((4:Int) ≤ (((List.length x0) : Nat) : Int))) then
 (impl_beOf k (List.take (4:Nat) x0)).bind fun t3 =>
 bif (decide ((7:Int) < (((List.length x0) : Nat) : Int))) then
 bif (decide ((7:Nat) < (List.length x0))) then
 (slices_Clone_byte_byte t2.1.2.2.1).bind fun t4 =>
 bif (decide ((24:Int) ≤ (((List.length x0) : Nat) : Int))) then
 (impl_AddrOf k (List.take (16:Nat) (List.drop (8:Nat) x0))).bind fun t5 =>
 bif (decide ((40:Int) ≤ (((List.length x0) : Nat) : Int))) then
 (impl_AddrOf k (List.take (16:Nat) (List.drop (24:Nat) x0))).bind fun t6 =>
 bif (((decide ((0:Int) ≤ (IntKind.wrap .i64 ((40:Int) + t1.1.1)))) && (decide ((IntKind.wrap .i64 ((40:Int) + t1.1.1)) ≤ (((List.length x0) : Nat) : Int)))) && (decide ((((List.length x0) : Nat) : Int) ≤ (((List.length x0) : Nat) : Int)))) then
 (slices_Clone_byte_byte (List.take ((List.length x0) - (Int.toNat (IntKind.wrap .i64 ((40:Int) + t1.1.1)))) (List.drop (Int.toNat (IntKind.wrap .i64 ((40:Int) + t1.1.1))) x0))).bind fun t7 =>
 some ((((IntKind.wrap .i64 (BitVec.ofInt (IntKind.bits .i64) (Int.fdiv t3.1.1 (2 ^ min (Int.toNat (20:Int)) (IntKind.bits .i64))) &&& BitVec.ofInt (IntKind.bits .i64) (255:Int)).toNat), (IntKind.wrap .i64 (BitVec.ofInt (IntKind.bits .i64) t3.1.1 &&& BitVec.ofInt (IntKind.bits .i64) (1048575:Int)).toNat), (IntKind.wrap .i64 (List.getD x0 (7:Nat) (0:Int))), t2.1.2.1, t5.1.1, t6.1.1, t2.1.1, t4.1), t7.1.1, (0:Int), ()), ())
 else none
 else none
 else none
 else none
 else none
 else none
 else none
 else none
 else none
 else
 impl_SixRead_j0
 else none
 else none
 else none
def impl_FourPiece (x0 : D_Four) : Option ((Bool × Unit) × Unit) :=
 (impl_FourOk x0).bind fun t1 =>
 bif t1.1.1 then
 bif (!(!(decide (x0.2.2.2.2.1 = (0:Int))))) then
 some (((decide ((Int.tmod x0.2.2.2.1 (2:Int)) = (1:Int))), ()), ())
 else
 some ((true, ()), ())
 else
 some ((false, ()), ())
def impl_Packet_ends (x0 : D_Packet) : Option ((D_Addr × (D_Addr × Unit)) × Unit) :=
 bif (decide (x0.1 = (4:Int))) then
 some ((x0.2.2.1.2.2.2.2.2.2.2.1, x0.2.2.1.2.2.2.2.2.2.2.2.1, ()), ())
 else
 some ((x0.2.2.2.1.2.2.2.2.1, x0.2.2.2.1.2.2.2.2.2.1, ()), ())
def impl_Packet_proto (x0 : D_Packet) : Option ((Int × Unit) × Unit) :=
 bif (decide (x0.1 = (4:Int))) then
 some ((x0.2.2.1.2.2.2.2.2.2.1, ()), ())
 else
 some ((x0.2.2.2.1.2.2.2.1, ()), ())
def impl_areBoth (x0 : D_Addr) (x1 : D_Addr) : Option ((Bool × Unit) × Unit) :=
 (impl_AddrOk x0).bind fun t1 =>
 bif t1.1.1 then
 (impl_AddrOk x1).bind fun t2 =>
 bif t2.1.1 then
 some (((decide (x0.1 = x1.1)), ()), ())
 else
 some ((false, ()), ())
 else
 some ((false, ()), ())
def impl_UpperKind (x0 : Int) (x1 : Int) : Option ((Int × Unit) × Unit) :=
 (impl_isByte x0).bind fun t1 =>
 bif (!(!t1.1.1)) then
 bif (!(decide (x1 = (4:Int)))) then
 bif (!(decide (x1 = (6:Int)))) then
 some (((-1:Int), ()), ())
 else
 bif (decide (x0 = (6:Int))) then
 some (((1:Int), ()), ())
 else
 bif (decide (x0 = (17:Int))) then
 some (((2:Int), ()), ())
 else
 bif (decide (x0 = (1:Int))) then
 bif (!(decide (x1 = (4:Int)))) then
 bif (decide (x0 = (58:Int))) then
 bif (decide (x1 = (6:Int))) then
 some (((3:Int), ()), ())
 else
 some (((0:Int), ()), ())
 else
 some (((0:Int), ()), ())
 else
 some (((3:Int), ()), ())
 else
 bif (decide (x0 = (58:Int))) then
 bif (decide (x1 = (6:Int))) then
 some (((3:Int), ()), ())
 else
 some (((0:Int), ()), ())
 else
 some (((0:Int), ()), ())
 else
 bif (decide (x0 = (6:Int))) then
 some (((1:Int), ()), ())
 else
 bif (decide (x0 = (17:Int))) then
 some (((2:Int), ()), ())
 else
 bif (decide (x0 = (1:Int))) then
 bif (!(decide (x1 = (4:Int)))) then
 bif (decide (x0 = (58:Int))) then
 bif (decide (x1 = (6:Int))) then
 some (((3:Int), ()), ())
 else
 some (((0:Int), ()), ())
 else
 some (((0:Int), ()), ())
 else
 some (((3:Int), ()), ())
 else
 bif (decide (x0 = (58:Int))) then
 bif (decide (x1 = (6:Int))) then
 some (((3:Int), ()), ())
 else
 some (((0:Int), ()), ())
 else
 some (((0:Int), ()), ())
 else
 some (((-1:Int), ()), ())
def impl_upperHead (x0 : Int) : Option ((Int × Unit) × Unit) :=
 bif (decide (x0 = (0:Int))) then
 some (((0:Int), ()), ())
 else
 bif (decide (x0 = (1:Int))) then
 some (((20:Int), ()), ())
 else
 bif (decide (x0 = (2:Int))) then
 bif (decide (x0 = (2:Int))) then
 some (((8:Int), ()), ())
 else
 some (((-1:Int), ()), ())
 else
 bif (decide (x0 = (3:Int))) then
 some (((8:Int), ()), ())
 else
 some (((-1:Int), ()), ())
abbrev impl_upperOf_j0 (k : Nat) (x0 : (List Int)) (x1 : Int) (x2 : Int) (t1 : (((List Int) × Unit) × Unit)) : Option ((D_Upper × (Int × Unit)) × Unit) :=
 bif (decide ((2:Int) ≤ (((List.length x0) : Nat) : Int))) then
 (impl_beOf k (List.take (2:Nat) x0)).bind fun t2 =>
 bif (decide ((4:Int) ≤ (((List.length x0) : Nat) : Int))) then
 (impl_beOf k (List.take (2:Nat) (List.drop (2:Nat) x0))).bind fun t3 =>
 bif (decide (x1 = (1:Int))) then
 bif (decide ((8:Int) ≤ (((List.length x0) : Nat) : Int))) then
 (impl_beOf k (List.take (4:Nat) (List.drop (4:Nat) x0))).bind fun t4 =>
 bif (decide ((12:Int) ≤ (((List.length x0) : Nat) : Int))) then
 (impl_beOf k (List.take (4:Nat) (List.drop (8:Nat) x0))).bind fun t5 =>
 bif (decide ((14:Int) ≤ (((List.length x0) : Nat) : Int))) then
 (impl_beOf k (List.take (2:Nat) (List.drop (12:Nat) x0))).bind fun t6 =>
 bif (decide ((16:Int) ≤ (((List.length x0) : Nat) : Int))) then
 (impl_beOf k (List.take (2:Nat) (List.drop (14:Nat) x0))).bind fun t7 =>
 bif (decide ((18:Int) ≤ (((List.length x0) : Nat) : Int))) then
 (impl_beOf k (List.take (2:Nat) (List.drop (16:Nat) x0))).bind fun t8 =>
 bif (decide ((20:Int) ≤ (((List.length x0) : Nat) : Int))) then
 (impl_beOf k (List.take (2:Nat) (List.drop (18:Nat) x0))).bind fun t9 =>
 bif ((decide ((20:Int) ≤ x2)) && (decide (x2 ≤ (((List.length x0) : Nat) : Int)))) then
 (slices_Clone_byte_byte (List.take ((Int.toNat x2) - (20:Nat)) (List.drop (20:Nat) x0))).bind fun t10 =>
 some (((x1, t2.1.1, t3.1.1, t4.1.1, t5.1.1, (Int.tmod t6.1.1 (4096:Int)), t7.1.1, t9.1.1, (0:Int), (0:Int), (0:Int), false, t10.1.1, t1.1), t8.1), ())
 else none
 else none
 else none
 else none
 else none
 else none
 else none
 else
 bif (decide (x1 = (2:Int))) then
 bif (decide ((8:Int) ≤ (((List.length x0) : Nat) : Int))) then
 (impl_beOf k (List.take (2:Nat) (List.drop (6:Nat) x0))).bind fun t11 =>
 some (((x1, t2.1.1, t3.1.1, (0:Int), (0:Int), (0:Int), (0:Int), (0:Int), (0:Int), (0:Int), (0:Int), false, ([] : List Int), t1.1), t11.1), ())
 else none
 else
 bif (decide (x1 = (3:Int))) then
 bif (decide ((0:Int) < (((List.length x0) : Nat) : Int))) then
 bif (decide ((0:Nat) < (List.length x0))) then
 bif (decide ((1:Int) < (((List.length x0) : Nat) : Int))) then
 bif (decide ((1:Nat) < (List.length x0))) then
 bif (decide ((4:Int) ≤ (((List.length x0) : Nat) : Int))) then
 (impl_beOf k (List.take (2:Nat) (List.drop (2:Nat) x0))).bind fun t12 =>
 bif (decide ((8:Int) ≤ (((List.length x0) : Nat) : Int))) then
 (impl_beOf k (List.take (4:Nat) (List.drop (4:Nat) x0))).bind fun t13 =>
 some (((x1, t2.1.1, t3.1.1, (0:Int), (0:Int), (0:Int), (0:Int), (0:Int), (IntKind.wrap .i64 (List.getD x0 (0:Nat) (0:Int))), (IntKind.wrap .i64 (List.getD x0 (1:Nat) (0:Int))), t13.1.1, false, ([] : List Int), t1.1), t12.1), ())
 else none
 else none
 else none
 else none
 else none
 else none
 else
 some (((x1, t2.1.1, t3.1.1, (0:Int), (0:Int), (0:Int), (0:Int), (0:Int), (0:Int), (0:Int), (0:Int), false, ([] : List Int), t1.1), (0:Int), ()), ())
 else none
 else none
def impl_upperOf (k : Nat) (x0 : (List Int)) (x1 : Int) (x2 : Int) : Option ((D_Upper × (Int × Unit)) × Unit) :=
 bif (((decide ((0:Int) ≤ x2)) && (decide (x2 ≤ (((List.length x0) : Nat) : Int)))) && (decide ((((List.length x0) : Nat) : Int) ≤ (((List.length x0) : Nat) : Int)))) then
 (slices_Clone_byte_byte (List.take ((List.length x0) - (Int.toNat x2)) (List.drop (Int.toNat x2) x0))).bind fun t1 =>
 bif (!(decide (x1 = (1:Int)))) then
 bif (decide (x1 = (2:Int))) then
 impl_upperOf_j0 k x0 x1 x2 t1
 else
 bif (decide (x1 = (1:Int))) then
 bif (decide ((8:Int) ≤ (((List.length x0) : Nat) : Int))) then
 (impl_beOf k (List.take (4:Nat) (List.drop (4:Nat) x0))).bind fun t14 =>
 bif (decide ((12:Int) ≤ (((List.length x0) : Nat) : Int))) then
 (impl_beOf k (List.take (4:Nat) (List.drop (8:Nat) x0))).bind fun t15 =>
 bif (decide ((14:Int) ≤ (((List.length x0) : Nat) : Int))) then
 (impl_beOf k (List.take (2:Nat) (List.drop (12:Nat) x0))).bind fun t16 =>
 bif (decide ((16:Int) ≤ (((List.length x0) : Nat) : Int))) then
 (impl_beOf k (List.take (2:Nat) (List.drop (14:Nat) x0))).bind fun t17 =>
 bif (decide ((18:Int) ≤ (((List.length x0) : Nat) : Int))) then
 (impl_beOf k (List.take (2:Nat) (List.drop (16:Nat) x0))).bind fun t18 =>
 bif (decide ((20:Int) ≤ (((List.length x0) : Nat) : Int))) then
 (impl_beOf k (List.take (2:Nat) (List.drop (18:Nat) x0))).bind fun t19 =>
 bif ((decide ((20:Int) ≤ x2)) && (decide (x2 ≤ (((List.length x0) : Nat) : Int)))) then
 (slices_Clone_byte_byte (List.take ((Int.toNat x2) - (20:Nat)) (List.drop (20:Nat) x0))).bind fun t20 =>
 some (((x1, (0:Int), (0:Int), t14.1.1, t15.1.1, (Int.tmod t16.1.1 (4096:Int)), t17.1.1, t19.1.1, (0:Int), (0:Int), (0:Int), false, t20.1.1, t1.1), t18.1), ())
 else none
 else none
 else none
 else none
 else none
 else none
 else none
 else
 bif (decide (x1 = (2:Int))) then
 bif (decide ((8:Int) ≤ (((List.length x0) : Nat) : Int))) then
 (impl_beOf k (List.take (2:Nat) (List.drop (6:Nat) x0))).bind fun t21 =>
 some (((x1, (0:Int), (0:Int), (0:Int), (0:Int), (0:Int), (0:Int), (0:Int), (0:Int), (0:Int), (0:Int), false, ([] : List Int), t1.1), t21.1), ())
 else none
 else
 bif (decide (x1 = (3:Int))) then
 bif (decide ((0:Int) < (((List.length x0) : Nat) : Int))) then
 bif (decide ((0:Nat) < (List.length x0))) then
 bif (decide ((1:Int) < (((List.length x0) : Nat) : Int))) then
 bif (decide ((1:Nat) < (List.length x0))) then
 bif (decide ((4:Int) ≤ (((List.length x0) : Nat) : Int))) then
 (impl_beOf k (List.take (2:Nat) (List.drop (2:Nat) x0))).bind fun t22 =>
 bif (decide ((8:Int) ≤ (((List.length x0) : Nat) : Int))) then
 (impl_beOf k (List.take (4:Nat) (List.drop (4:Nat) x0))).bind fun t23 =>
 some (((x1, (0:Int), (0:Int), (0:Int), (0:Int), (0:Int), (0:Int), (0:Int), (IntKind.wrap .i64 (List.getD x0 (0:Nat) (0:Int))), (IntKind.wrap .i64 (List.getD x0 (1:Nat) (0:Int))), t23.1.1, false, ([] : List Int), t1.1), t22.1), ())
 else none
 else none
 else none
 else none
 else none
 else none
 else
 some (((x1, (0:Int), (0:Int), (0:Int), (0:Int), (0:Int), (0:Int), (0:Int), (0:Int), (0:Int), (0:Int), false, ([] : List Int), t1.1), (0:Int), ()), ())
 else
 impl_upperOf_j0 k x0 x1 x2 t1
 else none
def impl_UpperSize (x0 : D_Upper) : Option ((Int × Unit) × Unit) :=
 (impl_upperHead x0.1).bind fun t1 =>
 bif (decide (t1.1.1 < (0:Int))) then
 some (((-1:Int), ()), ())
 else
 bif (decide (x0.1 = (1:Int))) then
 some (((IntKind.wrap .i64 ((IntKind.wrap .i64 (t1.1.1 + (((List.length x0.2.2.2.2.2.2.2.2.2.2.2.2.1) : Nat) : Int))) + (((List.length x0.2.2.2.2.2.2.2.2.2.2.2.2.2.1) : Nat) : Int))), ()), ())
 else
 some (((IntKind.wrap .i64 (t1.1.1 + (((List.length x0.2.2.2.2.2.2.2.2.2.2.2.2.2.1) : Nat) : Int))), ()), ())
def impl_areWords_s2 (rec : (Unit × ((List Int) × (Int × (Int × Unit)))) → Option ((Unit × (Bool × Unit)) ⊕ (Unit × Unit))) (v : (Unit × ((List Int) × (Int × (Int × Unit))))) : Option ((Unit × (Bool × Unit)) ⊕ (Unit × Unit)) :=
 bif (decide (v.2.2.2.1 < v.2.2.1)) then
 bif ((decide ((0:Int) ≤ v.2.2.2.1)) && (decide (v.2.2.2.1 < (((List.length v.2.1) : Nat) : Int)))) then
 bif (decide ((Int.toNat v.2.2.2.1) < (List.length v.2.1))) then
 (impl_isWord (List.getD v.2.1 (Int.toNat v.2.2.2.1) (0:Int))).bind fun t1 =>
 bif (!t1.1.1) then
 some (Sum.inl ((), false, ()))
 else
 rec ((), v.2.1, v.2.2.1, (IntKind.wrap .i64 (v.2.2.2.1 + (1:Int))), ())
 else none
 else none
 else
 some (Sum.inr ((), ()))
def impl_areWords (k : Nat) (x0 : (List Int)) : Option ((Bool × Unit) × Unit) :=
 (iter (impl_areWords_s2) k ((), x0, (((List.length x0) : Nat) : Int), (0:Int), ())).bind fun o1 =>
 Sum.elim (fun a2 =>
 some (a2.2, ()))
 (fun b3 =>
 some ((true, ()), ())) o1
def impl_areZero_1 (x0 : Int) : Option ((Bool × Unit) × Unit) :=
 some (((!(decide (x0 = (0:Int)))), ()), ())
def slices_IndexFunc_int_s2 (rec : (Unit × ((List Int) × (Unit × (Int × (Int × Unit))))) → Option ((Unit × (Int × Unit)) ⊕ (Unit × Unit))) (v : (Unit × ((List Int) × (Unit × (Int × (Int × Unit)))))) : Option ((Unit × (Int × Unit)) ⊕ (Unit × Unit)) :=
 bif (decide (v.2.2.2.2.1 < v.2.2.2.1)) then
 bif ((decide ((0:Int) ≤ v.2.2.2.2.1)) && (decide (v.2.2.2.2.1 < (((List.length v.2.1) : Nat) : Int)))) then
 bif (decide ((Int.toNat v.2.2.2.2.1) < (List.length v.2.1))) then
 (impl_areZero_1 (List.getD v.2.1 (Int.toNat v.2.2.2.2.1) (0:Int))).bind fun t1 =>
 bif t1.1.1 then
 some (Sum.inl ((), v.2.2.2.2))
 else
 rec ((), v.2.1, (), v.2.2.2.1, (IntKind.wrap .i64 (v.2.2.2.2.1 + (1:Int))), ())
 else none
 else none
 else
 some (Sum.inr ((), ()))
def slices_IndexFunc_int (k : Nat) (x0 : (List Int)) (x1 : Unit) : Option ((Int × Unit) × Unit) :=
 (iter (slices_IndexFunc_int_s2) k ((), x0, (), (((List.length x0) : Nat) : Int), (0:Int), ())).bind fun o1 =>
 Sum.elim (fun a2 =>
 some (a2.2, ()))
 (fun b3 =>
 some (((-1:Int), ()), ())) o1
def slices_ContainsFunc_int (k : Nat) (x0 : (List Int)) (x1 : Unit) : Option ((Bool × Unit) × Unit) :=
 (slices_IndexFunc_int k x0 ()).bind fun t1 =>
 some (((decide ((0:Int) ≤ t1.1.1)), ()), ())
def impl_areZero (k : Nat) (x0 : (List Int)) : Option ((Bool × Unit) × Unit) :=
 (slices_ContainsFunc_int k x0 ()).bind fun t1 =>
 some (((!t1.1.1), ()), ())
abbrev impl_UpperOk_j1 (k : Nat) (t3 : ((Bool × Unit) × Unit)) (x0 : D_Upper) : Option ((Bool × Unit) × Unit) :=
 bif t3.1.1 then
 bif (decide ((Int.tmod (((List.length x0.2.2.2.2.2.2.2.2.2.2.2.2.1) : Nat) : Int) (4:Int)) = (0:Int))) then
 (impl_areZero k ([x0.2.2.2.2.2.2.2.2.1, x0.2.2.2.2.2.2.2.2.2.1, x0.2.2.2.2.2.2.2.2.2.2.1] : List Int)).bind fun t11 =>
 bif t11.1.1 then
 some (((!x0.2.2.2.2.2.2.2.2.2.2.2.1), ()), ())
 else
 some ((false, ()), ())
 else
 some ((false, ()), ())
 else
 some ((false, ()), ())
abbrev impl_UpperOk_j2 (k : Nat) (t3 : ((Bool × Unit) × Unit)) (x0 : D_Upper) (x1 : Int) : Option ((Bool × Unit) × Unit) :=
 bif t3.1.1 then
 (impl_areZero k ([x0.2.2.2.1, x0.2.2.2.2.1, x0.2.2.2.2.2.1, x0.2.2.2.2.2.2.1, x0.2.2.2.2.2.2.2.1, x0.2.2.2.2.2.2.2.2.1, x0.2.2.2.2.2.2.2.2.2.1, x0.2.2.2.2.2.2.2.2.2.2.1, (((List.length x0.2.2.2.2.2.2.2.2.2.2.2.2.1) : Nat) : Int)] : List Int)).bind fun t12 =>
 bif t12.1.1 then
 bif (!(!x0.2.2.2.2.2.2.2.2.2.2.2.1)) then
 some (((decide (x1 = (4:Int))), ()), ())
 else
 some ((true, ()), ())
 else
 some ((false, ()), ())
 else
 some ((false, ()), ())
abbrev impl_UpperOk_j3 (k : Nat) (x0 : D_Upper) : Option ((Bool × Unit) × Unit) :=
 (impl_areZero k ([x0.2.1, x0.2.2.1, x0.2.2.2.1, x0.2.2.2.2.1, x0.2.2.2.2.2.1, x0.2.2.2.2.2.2.1, x0.2.2.2.2.2.2.2.1, (((List.length x0.2.2.2.2.2.2.2.2.2.2.2.2.1) : Nat) : Int)] : List Int)).bind fun t13 =>
 bif t13.1.1 then
 some (((!x0.2.2.2.2.2.2.2.2.2.2.2.1), ()), ())
 else
 some ((false, ()), ())
abbrev impl_UpperOk_j4 (k : Nat) (x0 : D_Upper) : Option ((Bool × Unit) × Unit) :=
 (impl_areZero k ([x0.2.1, x0.2.2.1, x0.2.2.2.1, x0.2.2.2.2.1, x0.2.2.2.2.2.1, x0.2.2.2.2.2.2.1, x0.2.2.2.2.2.2.2.1, x0.2.2.2.2.2.2.2.2.1, x0.2.2.2.2.2.2.2.2.2.1, x0.2.2.2.2.2.2.2.2.2.2.1, (((List.length x0.2.2.2.2.2.2.2.2.2.2.2.2.1) : Nat) : Int)] : List Int)).bind fun t14 =>
 bif t14.1.1 then
 some (((!x0.2.2.2.2.2.2.2.2.2.2.2.1), ()), ())
 else
 some ((false, ()), ())
abbrev impl_UpperOk_j6 (k : Nat) (x0 : D_Upper) (t3 : ((Bool × Unit) × Unit)) (x1 : Int) : Option ((Bool × Unit) × Unit) :=
 bif (decide (x0.1 = (2:Int))) then
 impl_UpperOk_j2 k t3 x0 x1
 else
 bif (decide (x0.1 = (3:Int))) then
 some ((false, ()), ())
 else
 impl_UpperOk_j4 k x0
abbrev impl_UpperOk_j5 (k : Nat) (x0 : D_Upper) (t3 : ((Bool × Unit) × Unit)) (x1 : Int) : Option ((Bool × Unit) × Unit) :=
 bif (decide (x0.1 = (1:Int))) then
 impl_UpperOk_j1 k t3 x0
 else
 impl_UpperOk_j6 k x0 t3 x1
abbrev impl_UpperOk_j8 (k : Nat) (x0 : D_Upper) (t3 : ((Bool × Unit) × Unit)) (x1 : Int) : Option ((Bool × Unit) × Unit) :=
 bif (decide (x0.1 = (1:Int))) then
 bif t3.1.1 then
 some ((false, ()), ())
 else
 some ((false, ()), ())
 else
 impl_UpperOk_j6 k x0 t3 x1
abbrev impl_UpperOk_j7 (k : Nat) (x0 : D_Upper) (t3 : ((Bool × Unit) × Unit)) (x1 : Int) : Option ((Bool × Unit) × Unit) :=
 (impl_isByte x0.2.2.2.2.2.2.2.2.1).bind fun t21 =>
 bif t21.1.1 then
 (impl_isByte x0.2.2.2.2.2.2.2.2.2.1).bind fun t22 =>
 bif t22.1.1 then
 (impl_isLong x0.2.2.2.2.2.2.2.2.2.2.1).bind fun t23 =>
 bif (decide (x0.1 = (1:Int))) then
 bif t3.1.1 then
 some ((false, ()), ())
 else
 some ((false, ()), ())
 else
 bif (decide (x0.1 = (2:Int))) then
 impl_UpperOk_j2 k t3 x0 x1
 else
 bif (decide (x0.1 = (3:Int))) then
 bif t23.1.1 then
 impl_UpperOk_j3 k x0
 else
 some ((false, ()), ())
 else
 impl_UpperOk_j4 k x0
 else
 impl_UpperOk_j8 k x0 t3 x1
 else
 impl_UpperOk_j8 k x0 t3 x1
abbrev impl_UpperOk_j0 (k : Nat) (x0 : D_Upper) (x1 : Int) : Option ((Bool × Unit) × Unit) :=
 (impl_UpperSize x0).bind fun t1 =>
 bif (!(decide (t1.1.1 < (0:Int)))) then
 (impl_UpperSize x0).bind fun t2 =>
 bif (decide ((1500:Int) < t2.1.1)) then
 some ((false, ()), ())
 else
 (impl_areWords k ([x0.2.1, x0.2.2.1] : List Int)).bind fun t3 =>
 (impl_areWords k ([x0.2.2.2.2.2.2.1, x0.2.2.2.2.2.2.2.1] : List Int)).bind fun t4 =>
 bif t4.1.1 then
 (impl_isLong x0.2.2.2.1).bind fun t5 =>
 bif t5.1.1 then
 (impl_isLong x0.2.2.2.2.1).bind fun t6 =>
 bif t6.1.1 then
 (impl_within x0.2.2.2.2.2.1 (0:Int) (4095:Int)).bind fun t7 =>
 bif t7.1.1 then
 bif (decide ((((List.length x0.2.2.2.2.2.2.2.2.2.2.2.2.1) : Nat) : Int) ≤ (40:Int))) then
 (impl_isByte x0.2.2.2.2.2.2.2.2.1).bind fun t8 =>
 bif t8.1.1 then
 (impl_isByte x0.2.2.2.2.2.2.2.2.2.1).bind fun t9 =>
 bif t9.1.1 then
 (impl_isLong x0.2.2.2.2.2.2.2.2.2.2.1).bind fun t10 =>
 bif (decide (x0.1 = (1:Int))) then
 impl_UpperOk_j1 k t3 x0
 else
 bif (decide (x0.1 = (2:Int))) then
 impl_UpperOk_j2 k t3 x0 x1
 else
 bif (decide (x0.1 = (3:Int))) then
 bif t10.1.1 then
 impl_UpperOk_j3 k x0
 else
 some ((false, ()), ())
 else
 impl_UpperOk_j4 k x0
 else
 impl_UpperOk_j5 k x0 t3 x1
 else
 impl_UpperOk_j5 k x0 t3 x1
 else
 impl_UpperOk_j7 k x0 t3 x1
 else
 impl_UpperOk_j7 k x0 t3 x1
 else
 impl_UpperOk_j7 k x0 t3 x1
 else
 impl_UpperOk_j7 k x0 t3 x1
 else
 impl_UpperOk_j7 k x0 t3 x1
 else
 some ((false, ()), ())
def impl_UpperOk (k : Nat) (x0 : D_Upper) (x1 : Int) : Option ((Bool × Unit) × Unit) :=
 bif (!(decide (x1 = (4:Int)))) then
 bif (!(!(decide (x1 = (6:Int))))) then
 impl_UpperOk_j0 k x0 x1
 else
 some ((false, ()), ())
 else
 impl_UpperOk_j0 k x0 x1
def impl_pseudoSum (k : Nat) (x0 : D_Addr) (x1 : D_Addr) (x2 : Int) (x3 : Int) : Option ((Int × Unit) × Unit) :=
 (impl_Put16 k x3).bind fun t1 =>
 (slices_Concat_byte_byte k ([([(0:Int), (IntKind.wrap .u8 x2)] : List Int), t1.1.1] : List (List Int))).bind fun t2 =>
 bif (decide (x0.1 = (6:Int))) then
 (impl_Put32 k x3).bind fun t3 =>
 (slices_Concat_byte_byte k ([t3.1.1, ([(0:Int), (0:Int), (0:Int), (IntKind.wrap .u8 x2)] : List Int)] : List (List Int))).bind fun t4 =>
 (impl_AddrBytes k x0).bind fun t5 =>
 (impl_AddrBytes k x1).bind fun t6 =>
 (slices_Concat_byte_byte k ([t5.1.1, t6.1.1, t4.1.1] : List (List Int))).bind fun t7 =>
 (impl_onesSum k t7.1.1).bind fun t8 =>
 some (t8.1, ())
 else
 (impl_AddrBytes k x0).bind fun t9 =>
 (impl_AddrBytes k x1).bind fun t10 =>
 (slices_Concat_byte_byte k ([t9.1.1, t10.1.1, t2.1.1] : List (List Int))).bind fun t11 =>
 (impl_onesSum k t11.1.1).bind fun t12 =>
 some (t12.1, ())
def impl_Upper_encoded (k : Nat) (x0 : D_Upper) (x1 : Int) : Option (((List Int) × Unit) × Unit) :=
 (impl_Put16 k x0.2.1).bind fun t1 =>
 (impl_Put16 k x0.2.2.1).bind fun t2 =>
 (slices_Concat_byte_byte k ([t1.1.1, t2.1.1] : List (List Int))).bind fun t3 =>
 bif (decide (x0.1 = (1:Int))) then
 (impl_Put16 k (IntKind.wrap .i64 ((IntKind.wrap .i64 ((4096:Int) * (IntKind.wrap .i64 ((5:Int) + (IntKind.wrap .i64 (Int.tdiv (((List.length x0.2.2.2.2.2.2.2.2.2.2.2.2.1) : Nat) : Int) (4:Int))))))) + x0.2.2.2.2.2.1))).bind fun t4 =>
 (impl_Put32 k x0.2.2.2.1).bind fun t5 =>
 (impl_Put32 k x0.2.2.2.2.1).bind fun t6 =>
 (impl_Put16 k x0.2.2.2.2.2.2.1).bind fun t7 =>
 (impl_Put16 k x1).bind fun t8 =>
 (impl_Put16 k x0.2.2.2.2.2.2.2.1).bind fun t9 =>
 (slices_Concat_byte_byte k ([t3.1.1, t5.1.1, t6.1.1, t4.1.1, t7.1.1, t8.1.1, t9.1.1, x0.2.2.2.2.2.2.2.2.2.2.2.2.1, x0.2.2.2.2.2.2.2.2.2.2.2.2.2.1] : List (List Int))).bind fun t10 =>
 some (t10.1, ())
 else
 bif (decide (x0.1 = (2:Int))) then
 (impl_UpperSize x0).bind fun t11 =>
 (impl_Put16 k t11.1.1).bind fun t12 =>
 (impl_Put16 k x1).bind fun t13 =>
 (slices_Concat_byte_byte k ([t3.1.1, t12.1.1, t13.1.1, x0.2.2.2.2.2.2.2.2.2.2.2.2.2.1] : List (List Int))).bind fun t14 =>
 some (t14.1, ())
 else
 bif (decide (x0.1 = (3:Int))) then
 (impl_Put16 k x1).bind fun t15 =>
 (impl_Put32 k x0.2.2.2.2.2.2.2.2.2.2.1).bind fun t16 =>
 (slices_Concat_byte_byte k ([([(IntKind.wrap .u8 x0.2.2.2.2.2.2.2.2.1), (IntKind.wrap .u8 x0.2.2.2.2.2.2.2.2.2.1)] : List Int), t15.1.1, t16.1.1, x0.2.2.2.2.2.2.2.2.2.2.2.2.2.1] : List (List Int))).bind fun t17 =>
 some (t17.1, ())
 else
 (slices_Clone_byte_byte x0.2.2.2.2.2.2.2.2.2.2.2.2.2.1).bind fun t18 =>
 some (t18.1, ())
def impl_UpperSum (k : Nat) (x0 : D_Upper) (x1 : D_Addr) (x2 : D_Addr) : Option ((Int × Unit) × Unit) :=
 (impl_areBoth x1 x2).bind fun t1 =>
 bif (!(!t1.1.1)) then
 (impl_UpperOk k x0 x1.1).bind fun t2 =>
 bif (!t2.1.1) then
 some (((-1:Int), ()), ())
 else
 bif (!(decide (x0.1 = (0:Int)))) then
 bif x0.2.2.2.2.2.2.2.2.2.2.2.1 then
 some (((0:Int), ()), ())
 else
 bif (!(!(decide (x0.1 = (3:Int))))) then
 bif (decide (x1.1 = (6:Int))) then
 (impl_UpperSize x0).bind fun t3 =>
 (impl_pseudoSum k x1 x2 (iI (mget (.int .i64) (.int .i64) ([((1:Int), (6:Int)), ((2:Int), (17:Int)), ((3:Int), (58:Int))] : List (Int × Int)) x0.1)) t3.1.1).bind fun t4 =>
 (impl_Upper_encoded k x0 (0:Int)).bind fun t5 =>
 (impl_onesSum k t5.1.1).bind fun t6 =>
 (impl_sum t4.1.1 t6.1.1).bind fun t7 =>
 bif (decide (x0.1 = (2:Int))) then
 bif (decide ((IntKind.wrap .i64 ((65535:Int) - t7.1.1)) = (0:Int))) then
 some (((65535:Int), ()), ())
 else
 some (((IntKind.wrap .i64 ((65535:Int) - t7.1.1)), ()), ())
 else
 some (((IntKind.wrap .i64 ((65535:Int) - t7.1.1)), ()), ())
 else
 (impl_Upper_encoded k x0 (0:Int)).bind fun t8 =>
 (impl_onesSum k t8.1.1).bind fun t9 =>
 (impl_sum (0:Int) t9.1.1).bind fun t10 =>
 bif (decide (x0.1 = (2:Int))) then
 bif (decide ((IntKind.wrap .i64 ((65535:Int) - t10.1.1)) = (0:Int))) then
 some (((65535:Int), ()), ())
 else
 some (((IntKind.wrap .i64 ((65535:Int) - t10.1.1)), ()), ())
 else
 some (((IntKind.wrap .i64 ((65535:Int) - t10.1.1)), ()), ())
 else
 (impl_UpperSize x0).bind fun t11 =>
 (impl_pseudoSum k x1 x2 (iI (mget (.int .i64) (.int .i64) ([((1:Int), (6:Int)), ((2:Int), (17:Int)), ((3:Int), (58:Int))] : List (Int × Int)) x0.1)) t11.1.1).bind fun t12 =>
 (impl_Upper_encoded k x0 (0:Int)).bind fun t13 =>
 (impl_onesSum k t13.1.1).bind fun t14 =>
 (impl_sum t12.1.1 t14.1.1).bind fun t15 =>
 bif (decide (x0.1 = (2:Int))) then
 bif (decide ((IntKind.wrap .i64 ((65535:Int) - t15.1.1)) = (0:Int))) then
 some (((65535:Int), ()), ())
 else
 some (((IntKind.wrap .i64 ((65535:Int) - t15.1.1)), ()), ())
 else
 some (((IntKind.wrap .i64 ((65535:Int) - t15.1.1)), ()), ())
 else
 some (((0:Int), ()), ())
 else
 some (((-1:Int), ()), ())
abbrev impl_UpperRead_j1 (k : Nat) (t6 : ((D_Upper × (Int × Unit)) × Unit)) (x2 : D_Addr) (x3 : D_Addr) : Option ((D_Upper × (Int × Unit)) × Unit) :=
 (impl_UpperSum k (t6.1.1.1, t6.1.1.2.1, t6.1.1.2.2.1, t6.1.1.2.2.2.1, t6.1.1.2.2.2.2.1, t6.1.1.2.2.2.2.2.1, t6.1.1.2.2.2.2.2.2.1, t6.1.1.2.2.2.2.2.2.2.1, t6.1.1.2.2.2.2.2.2.2.2.1, t6.1.1.2.2.2.2.2.2.2.2.2.1, t6.1.1.2.2.2.2.2.2.2.2.2.2.1, false, t6.1.1.2.2.2.2.2.2.2.2.2.2.2.2) x2 x3).bind fun t8 =>
 bif (!(decide (t6.1.2.1 = t8.1.1))) then
 some ((zzU, (6:Int), ()), ())
 else
 some (((t6.1.1.1, t6.1.1.2.1, t6.1.1.2.2.1, t6.1.1.2.2.2.1, t6.1.1.2.2.2.2.1, t6.1.1.2.2.2.2.2.1, t6.1.1.2.2.2.2.2.2.1, t6.1.1.2.2.2.2.2.2.2.1, t6.1.1.2.2.2.2.2.2.2.2.1, t6.1.1.2.2.2.2.2.2.2.2.2.1, t6.1.1.2.2.2.2.2.2.2.2.2.2.1, false, t6.1.1.2.2.2.2.2.2.2.2.2.2.2.2), (0:Int), ()), ())
abbrev impl_UpperRead_j0 (k : Nat) (x0 : (List Int)) (t3 : ((Int × Unit) × Unit)) (x2 : D_Addr) (x3 : D_Addr) : Option ((D_Upper × (Int × Unit)) × Unit) :=
 (impl_upperOf k x0 t3.1.1 (IntKind.wrap .i64 ((4:Int) * (IntKind.wrap .i64 (Int.fdiv (List.getD x0 (12:Nat) (0:Int)) (2 ^ min (Int.toNat (4:Int)) (IntKind.bits .u8))))))).bind fun t6 =>
 bif (decide (t3.1.1 = (2:Int))) then
 bif (decide (x2.1 = (4:Int))) then
 (impl_UpperSum k (t6.1.1.1, t6.1.1.2.1, t6.1.1.2.2.1, t6.1.1.2.2.2.1, t6.1.1.2.2.2.2.1, t6.1.1.2.2.2.2.2.1, t6.1.1.2.2.2.2.2.2.1, t6.1.1.2.2.2.2.2.2.2.1, t6.1.1.2.2.2.2.2.2.2.2.1, t6.1.1.2.2.2.2.2.2.2.2.2.1, t6.1.1.2.2.2.2.2.2.2.2.2.2.1, (decide (t6.1.2.1 = (0:Int))), t6.1.1.2.2.2.2.2.2.2.2.2.2.2.2) x2 x3).bind fun t7 =>
 bif (!(decide (t6.1.2.1 = t7.1.1))) then
 some ((zzU, (6:Int), ()), ())
 else
 some (((t6.1.1.1, t6.1.1.2.1, t6.1.1.2.2.1, t6.1.1.2.2.2.1, t6.1.1.2.2.2.2.1, t6.1.1.2.2.2.2.2.1, t6.1.1.2.2.2.2.2.2.1, t6.1.1.2.2.2.2.2.2.2.1, t6.1.1.2.2.2.2.2.2.2.2.1, t6.1.1.2.2.2.2.2.2.2.2.2.1, t6.1.1.2.2.2.2.2.2.2.2.2.2.1, (decide (t6.1.2.1 = (0:Int))), t6.1.1.2.2.2.2.2.2.2.2.2.2.2.2), (0:Int), ()), ())
 else
 impl_UpperRead_j1 k t6 x2 x3
 else
 impl_UpperRead_j1 k t6 x2 x3
abbrev impl_UpperRead_j3 (k : Nat) (t15 : ((D_Upper × (Int × Unit)) × Unit)) (x2 : D_Addr) (x3 : D_Addr) : Option ((D_Upper × (Int × Unit)) × Unit) :=
 (impl_UpperSum k (t15.1.1.1, t15.1.1.2.1, t15.1.1.2.2.1, t15.1.1.2.2.2.1, t15.1.1.2.2.2.2.1, t15.1.1.2.2.2.2.2.1, t15.1.1.2.2.2.2.2.2.1, t15.1.1.2.2.2.2.2.2.2.1, t15.1.1.2.2.2.2.2.2.2.2.1, t15.1.1.2.2.2.2.2.2.2.2.2.1, t15.1.1.2.2.2.2.2.2.2.2.2.2.1, false, t15.1.1.2.2.2.2.2.2.2.2.2.2.2.2) x2 x3).bind fun t17 =>
 bif (!(decide (t15.1.2.1 = t17.1.1))) then
 some ((zzU, (6:Int), ()), ())
 else
 some (((t15.1.1.1, t15.1.1.2.1, t15.1.1.2.2.1, t15.1.1.2.2.2.1, t15.1.1.2.2.2.2.1, t15.1.1.2.2.2.2.2.1, t15.1.1.2.2.2.2.2.2.1, t15.1.1.2.2.2.2.2.2.2.1, t15.1.1.2.2.2.2.2.2.2.2.1, t15.1.1.2.2.2.2.2.2.2.2.2.1, t15.1.1.2.2.2.2.2.2.2.2.2.2.1, false, t15.1.1.2.2.2.2.2.2.2.2.2.2.2.2), (0:Int), ()), ())
abbrev impl_UpperRead_j2 (k : Nat) (x0 : (List Int)) (t3 : ((Int × Unit) × Unit)) (t4 : ((Int × Unit) × Unit)) (x2 : D_Addr) (x3 : D_Addr) : Option ((D_Upper × (Int × Unit)) × Unit) :=
 (impl_upperOf k x0 t3.1.1 t4.1.1).bind fun t15 =>
 bif (decide (t3.1.1 = (2:Int))) then
 bif (decide (x2.1 = (4:Int))) then
 (impl_UpperSum k (t15.1.1.1, t15.1.1.2.1, t15.1.1.2.2.1, t15.1.1.2.2.2.1, t15.1.1.2.2.2.2.1, t15.1.1.2.2.2.2.2.1, t15.1.1.2.2.2.2.2.2.1, t15.1.1.2.2.2.2.2.2.2.1, t15.1.1.2.2.2.2.2.2.2.2.1, t15.1.1.2.2.2.2.2.2.2.2.2.1, t15.1.1.2.2.2.2.2.2.2.2.2.2.1, (decide (t15.1.2.1 = (0:Int))), t15.1.1.2.2.2.2.2.2.2.2.2.2.2.2) x2 x3).bind fun t16 =>
 bif (!(decide (t15.1.2.1 = t16.1.1))) then
 some ((zzU, (6:Int), ()), ())
 else
 some (((t15.1.1.1, t15.1.1.2.1, t15.1.1.2.2.1, t15.1.1.2.2.2.1, t15.1.1.2.2.2.2.1, t15.1.1.2.2.2.2.2.1, t15.1.1.2.2.2.2.2.2.1, t15.1.1.2.2.2.2.2.2.2.1, t15.1.1.2.2.2.2.2.2.2.2.1, t15.1.1.2.2.2.2.2.2.2.2.2.1, t15.1.1.2.2.2.2.2.2.2.2.2.2.1, (decide (t15.1.2.1 = (0:Int))), t15.1.1.2.2.2.2.2.2.2.2.2.2.2.2), (0:Int), ()), ())
 else
 impl_UpperRead_j3 k t15 x2 x3
 else
 impl_UpperRead_j3 k t15 x2 x3
def impl_UpperRead (k : Nat) (x0 : (List Int)) (x1 : Int) (x2 : D_Addr) (x3 : D_Addr) : Option ((D_Upper × (Int × Unit)) × Unit) :=
 bif (decide ((1500:Int) < (((List.length x0) : Nat) : Int))) then
 some ((zzU, (1:Int), ()), ())
 else
 (impl_areBoth x2 x3).bind fun t1 =>
 bif (!(!t1.1.1)) then
 (impl_isByte x1).bind fun t2 =>
 bif (!t2.1.1) then
 some ((zzU, (2:Int), ()), ())
 else
 (impl_UpperKind x1 x2.1).bind fun t3 =>
 (impl_upperHead t3.1.1).bind fun t4 =>
 bif (decide ((((List.length x0) : Nat) : Int) < t4.1.1)) then
 some ((zzU, (3:Int), ()), ())
 else
 bif (decide (t3.1.1 = (1:Int))) then
 bif (decide ((12:Int) < (((List.length x0) : Nat) : Int))) then
 bif (decide ((12:Nat) < (List.length x0))) then
 bif (!(decide ((IntKind.wrap .i64 ((4:Int) * (IntKind.wrap .i64 (Int.fdiv (List.getD x0 (12:Nat) (0:Int)) (2 ^ min (Int.toNat (4:Int)) (IntKind.bits .u8)))))) < (20:Int)))) then
 bif (decide ((((List.length x0) : Nat) : Int) < (IntKind.wrap .i64 ((4:Int) * (IntKind.wrap .i64 (Int.fdiv (List.getD x0 (12:Nat) (0:Int)) (2 ^ min (Int.toNat (4:Int)) (IntKind.bits .u8)))))))) then
 some ((zzU, (4:Int), ()), ())
 else
 bif (decide (t3.1.1 = (2:Int))) then
 bif (decide ((6:Int) ≤ (((List.length x0) : Nat) : Int))) then
 (impl_beOf k (List.take (2:Nat) (List.drop (4:Nat) x0))).bind fun t5 =>
 bif (!(decide (t5.1.1 = (((List.length x0) : Nat) : Int)))) then
 some ((zzU, (5:Int), ()), ())
 else
 impl_UpperRead_j0 k x0 t3 x2 x3
 else none
 else
 impl_UpperRead_j0 k x0 t3 x2 x3
 else
 some ((zzU, (4:Int), ()), ())
 else none
 else none
 else
 bif (decide (t3.1.1 = (2:Int))) then
 bif (decide ((6:Int) ≤ (((List.length x0) : Nat) : Int))) then
 (impl_beOf k (List.take (2:Nat) (List.drop (4:Nat) x0))).bind fun t14 =>
 bif (!(decide (t14.1.1 = (((List.length x0) : Nat) : Int)))) then
 some ((zzU, (5:Int), ()), ())
 else
 impl_UpperRead_j2 k x0 t3 t4 x2 x3
 else none
 else
 impl_UpperRead_j2 k x0 t3 t4 x2 x3
 else
 some ((zzU, (2:Int), ()), ())
abbrev impl_PacketRead_j0 (k : Nat) (t1 : ((D_Ether × (Int × Unit)) × Unit)) (t2 : ((D_Four × ((List Int) × (Int × Unit))) × Unit)) : Option ((D_Packet × (Int × Unit)) × Unit) :=
 (impl_Packet_ends ((iI (mget (.int .i64) (.int .i64) (mset (.int .i64) (.int .i64) (mset (.int .i64) (.int .i64) ([] : List (Int × Int)) (2048:Int) (4:Int)) (34525:Int) (6:Int)) t1.1.1.2.2.2.1)), (t1.1.1.1, t1.1.1.2.1, t1.1.1.2.2.1, t1.1.1.2.2.2.1, ([] : List Int), ()), t2.1.1, zzS, zzU, t2.1.2.1, ())).bind fun t4 =>
 (impl_Packet_proto ((iI (mget (.int .i64) (.int .i64) (mset (.int .i64) (.int .i64) (mset (.int .i64) (.int .i64) ([] : List (Int × Int)) (2048:Int) (4:Int)) (34525:Int) (6:Int)) t1.1.1.2.2.2.1)), (t1.1.1.1, t1.1.1.2.1, t1.1.1.2.2.1, t1.1.1.2.2.2.1, ([] : List Int), ()), t2.1.1, zzS, zzU, t2.1.2.1, ())).bind fun t5 =>
 (impl_UpperRead k ([] : List Int) t5.1.1 t4.1.1 t4.1.2.1).bind fun t6 =>
 bif (!(decide (t6.1.2.1 = (0:Int)))) then
 some ((zzP, (IntKind.wrap .i64 ((40:Int) + t6.1.2.1)), ()), ())
 else
 some ((((iI (mget (.int .i64) (.int .i64) (mset (.int .i64) (.int .i64) (mset (.int .i64) (.int .i64) ([] : List (Int × Int)) (2048:Int) (4:Int)) (34525:Int) (6:Int)) t1.1.1.2.2.2.1)), (t1.1.1.1, t1.1.1.2.1, t1.1.1.2.2.1, t1.1.1.2.2.2.1, ([] : List Int), ()), t2.1.1, zzS, t6.1.1, t2.1.2.1, ()), (0:Int), ()), ())
abbrev impl_PacketRead_j1 (k : Nat) (t1 : ((D_Ether × (Int × Unit)) × Unit)) (t2 : ((D_Four × ((List Int) × (Int × Unit))) × Unit)) : Option ((D_Packet × (Int × Unit)) × Unit) :=
 (impl_Packet_ends ((iI (mget (.int .i64) (.int .i64) (mset (.int .i64) (.int .i64) (mset (.int .i64) (.int .i64) ([] : List (Int × Int)) (2048:Int) (4:Int)) (34525:Int) (6:Int)) t1.1.1.2.2.2.1)), (t1.1.1.1, t1.1.1.2.1, t1.1.1.2.2.1, t1.1.1.2.2.2.1, ([] : List Int), ()), (t2.1.1.1, t2.1.1.2.1, t2.1.1.2.2.1, t2.1.1.2.2.2.1, t2.1.1.2.2.2.2.1, t2.1.1.2.2.2.2.2.1, t2.1.1.2.2.2.2.2.2.1, t2.1.1.2.2.2.2.2.2.2.1, t2.1.1.2.2.2.2.2.2.2.2.1, t2.1.1.2.2.2.2.2.2.2.2.2.1, ([] : List Int), ()), zzS, zzU, t2.1.2.1, ())).bind fun t11 =>
 (impl_Packet_proto ((iI (mget (.int .i64) (.int .i64) (mset (.int .i64) (.int .i64) (mset (.int .i64) (.int .i64) ([] : List (Int × Int)) (2048:Int) (4:Int)) (34525:Int) (6:Int)) t1.1.1.2.2.2.1)), (t1.1.1.1, t1.1.1.2.1, t1.1.1.2.2.1, t1.1.1.2.2.2.1, ([] : List Int), ()), (t2.1.1.1, t2.1.1.2.1, t2.1.1.2.2.1, t2.1.1.2.2.2.1, t2.1.1.2.2.2.2.1, t2.1.1.2.2.2.2.2.1, t2.1.1.2.2.2.2.2.2.1, t2.1.1.2.2.2.2.2.2.2.1, t2.1.1.2.2.2.2.2.2.2.2.1, t2.1.1.2.2.2.2.2.2.2.2.2.1, ([] : List Int), ()), zzS, zzU, t2.1.2.1, ())).bind fun t12 =>
 (impl_UpperRead k t2.1.1.2.2.2.2.2.2.2.2.2.2.1 t12.1.1 t11.1.1 t11.1.2.1).bind fun t13 =>
 bif (!(decide (t13.1.2.1 = (0:Int)))) then
 some ((zzP, (IntKind.wrap .i64 ((40:Int) + t13.1.2.1)), ()), ())
 else
 some ((((iI (mget (.int .i64) (.int .i64) (mset (.int .i64) (.int .i64) (mset (.int .i64) (.int .i64) ([] : List (Int × Int)) (2048:Int) (4:Int)) (34525:Int) (6:Int)) t1.1.1.2.2.2.1)), (t1.1.1.1, t1.1.1.2.1, t1.1.1.2.2.1, t1.1.1.2.2.2.1, ([] : List Int), ()), (t2.1.1.1, t2.1.1.2.1, t2.1.1.2.2.1, t2.1.1.2.2.2.1, t2.1.1.2.2.2.2.1, t2.1.1.2.2.2.2.2.1, t2.1.1.2.2.2.2.2.2.1, t2.1.1.2.2.2.2.2.2.2.1, t2.1.1.2.2.2.2.2.2.2.2.1, t2.1.1.2.2.2.2.2.2.2.2.2.1, ([] : List Int), ()), zzS, t13.1.1, t2.1.2.1, ()), (0:Int), ()), ())
abbrev impl_PacketRead_j2 (k : Nat) (t1 : ((D_Ether × (Int × Unit)) × Unit)) (t17 : ((D_Six × ((List Int) × (Int × Unit))) × Unit)) : Option ((D_Packet × (Int × Unit)) × Unit) :=
 (impl_Packet_ends ((iI (mget (.int .i64) (.int .i64) (mset (.int .i64) (.int .i64) (mset (.int .i64) (.int .i64) ([] : List (Int × Int)) (2048:Int) (4:Int)) (34525:Int) (6:Int)) t1.1.1.2.2.2.1)), (t1.1.1.1, t1.1.1.2.1, t1.1.1.2.2.1, t1.1.1.2.2.2.1, ([] : List Int), ()), zzF, t17.1.1, zzU, t17.1.2.1, ())).bind fun t19 =>
 (impl_Packet_proto ((iI (mget (.int .i64) (.int .i64) (mset (.int .i64) (.int .i64) (mset (.int .i64) (.int .i64) ([] : List (Int × Int)) (2048:Int) (4:Int)) (34525:Int) (6:Int)) t1.1.1.2.2.2.1)), (t1.1.1.1, t1.1.1.2.1, t1.1.1.2.2.1, t1.1.1.2.2.2.1, ([] : List Int), ()), zzF, t17.1.1, zzU, t17.1.2.1, ())).bind fun t20 =>
 (impl_UpperRead k ([] : List Int) t20.1.1 t19.1.1 t19.1.2.1).bind fun t21 =>
 bif (!(decide (t21.1.2.1 = (0:Int)))) then
 some ((zzP, (IntKind.wrap .i64 ((40:Int) + t21.1.2.1)), ()), ())
 else
 some ((((iI (mget (.int .i64) (.int .i64) (mset (.int .i64) (.int .i64) (mset (.int .i64) (.int .i64) ([] : List (Int × Int)) (2048:Int) (4:Int)) (34525:Int) (6:Int)) t1.1.1.2.2.2.1)), (t1.1.1.1, t1.1.1.2.1, t1.1.1.2.2.1, t1.1.1.2.2.2.1, ([] : List Int), ()), zzF, t17.1.1, t21.1.1, t17.1.2.1, ()), (0:Int), ()), ())
abbrev impl_PacketRead_j3 (k : Nat) (t1 : ((D_Ether × (Int × Unit)) × Unit)) (t17 : ((D_Six × ((List Int) × (Int × Unit))) × Unit)) : Option ((D_Packet × (Int × Unit)) × Unit) :=
 (impl_Packet_ends ((iI (mget (.int .i64) (.int .i64) (mset (.int .i64) (.int .i64) (mset (.int .i64) (.int .i64) ([] : List (Int × Int)) (2048:Int) (4:Int)) (34525:Int) (6:Int)) t1.1.1.2.2.2.1)), (t1.1.1.1, t1.1.1.2.1, t1.1.1.2.2.1, t1.1.1.2.2.2.1, ([] : List Int), ()), zzF, (t17.1.1.1, t17.1.1.2.1, t17.1.1.2.2.1, t17.1.1.2.2.2.1, t17.1.1.2.2.2.2.1, t17.1.1.2.2.2.2.2.1, t17.1.1.2.2.2.2.2.2.1, ([] : List Int), ()), zzU, t17.1.2.1, ())).bind fun t26 =>
 (impl_Packet_proto ((iI (mget (.int .i64) (.int .i64) (mset (.int .i64) (.int .i64) (mset (.int .i64) (.int .i64) ([] : List (Int × Int)) (2048:Int) (4:Int)) (34525:Int) (6:Int)) t1.1.1.2.2.2.1)), (t1.1.1.1, t1.1.1.2.1, t1.1.1.2.2.1, t1.1.1.2.2.2.1, ([] : List Int), ()), zzF, (t17.1.1.1, t17.1.1.2.1, t17.1.1.2.2.1, t17.1.1.2.2.2.1, t17.1.1.2.2.2.2.1, t17.1.1.2.2.2.2.2.1, t17.1.1.2.2.2.2.2.2.1, ([] : List Int), ()), zzU, t17.1.2.1, ())).bind fun t27 =>
 (impl_UpperRead k t17.1.1.2.2.2.2.2.2.2.1 t27.1.1 t26.1.1 t26.1.2.1).bind fun t28 =>
 bif (!(decide (t28.1.2.1 = (0:Int)))) then
 some ((zzP, (IntKind.wrap .i64 ((40:Int) + t28.1.2.1)), ()), ())
 else
 some ((((iI (mget (.int .i64) (.int .i64) (mset (.int .i64) (.int .i64) (mset (.int .i64) (.int .i64) ([] : List (Int × Int)) (2048:Int) (4:Int)) (34525:Int) (6:Int)) t1.1.1.2.2.2.1)), (t1.1.1.1, t1.1.1.2.1, t1.1.1.2.2.1, t1.1.1.2.2.2.1, ([] : List Int), ()), zzF, (t17.1.1.1, t17.1.1.2.1, t17.1.1.2.2.1, t17.1.1.2.2.2.1, t17.1.1.2.2.2.2.1, t17.1.1.2.2.2.2.2.1, t17.1.1.2.2.2.2.2.2.1, ([] : List Int), ()), t28.1.1, t17.1.2.1, ()), (0:Int), ()), ())
def impl_PacketRead (k : Nat) (x0 : (List Int)) : Option ((D_Packet × (Int × Unit)) × Unit) :=
 (impl_EtherRead k x0).bind fun t1 =>
 bif (!(decide (t1.1.2.1 = (0:Int)))) then
 some ((zzP, (IntKind.wrap .i64 ((10:Int) + t1.1.2.1)), ()), ())
 else
 bif (!(mhas (.int .i64) (.int .i64) (mset (.int .i64) (.int .i64) (mset (.int .i64) (.int .i64) ([] : List (Int × Int)) (2048:Int) (4:Int)) (34525:Int) (6:Int)) t1.1.1.2.2.2.1)) then
 some ((zzP, (50:Int), ()), ())
 else
 bif (decide ((iI (mget (.int .i64) (.int .i64) (mset (.int .i64) (.int .i64) (mset (.int .i64) (.int .i64) ([] : List (Int × Int)) (2048:Int) (4:Int)) (34525:Int) (6:Int)) t1.1.1.2.2.2.1)) = (4:Int))) then
 (impl_FourRead k t1.1.1.2.2.2.2.1).bind fun t2 =>
 bif (!(decide (t2.1.2.2.1 = (0:Int)))) then
 bif (!(decide ((IntKind.wrap .i64 ((20:Int) + t2.1.2.2.1)) = (0:Int)))) then
 some ((zzP, (IntKind.wrap .i64 ((20:Int) + t2.1.2.2.1)), ()), ())
 else
 bif (decide ((iI (mget (.int .i64) (.int .i64) (mset (.int .i64) (.int .i64) (mset (.int .i64) (.int .i64) ([] : List (Int × Int)) (2048:Int) (4:Int)) (34525:Int) (6:Int)) t1.1.1.2.2.2.1)) = (4:Int))) then
 (impl_FourPiece t2.1.1).bind fun t3 =>
 bif t3.1.1 then
 some ((((iI (mget (.int .i64) (.int .i64) (mset (.int .i64) (.int .i64) (mset (.int .i64) (.int .i64) ([] : List (Int × Int)) (2048:Int) (4:Int)) (34525:Int) (6:Int)) t1.1.1.2.2.2.1)), (t1.1.1.1, t1.1.1.2.1, t1.1.1.2.2.1, t1.1.1.2.2.2.1, ([] : List Int), ()), t2.1.1, zzS, zzU, t2.1.2.1, ()), (0:Int), ()), ())
 else
 impl_PacketRead_j0 k t1 t2
 else
 impl_PacketRead_j0 k t1 t2
 else
 bif (decide ((iI (mget (.int .i64) (.int .i64) (mset (.int .i64) (.int .i64) (mset (.int .i64) (.int .i64) ([] : List (Int × Int)) (2048:Int) (4:Int)) (34525:Int) (6:Int)) t1.1.1.2.2.2.1)) = (4:Int))) then
 (impl_FourPiece (t2.1.1.1, t2.1.1.2.1, t2.1.1.2.2.1, t2.1.1.2.2.2.1, t2.1.1.2.2.2.2.1, t2.1.1.2.2.2.2.2.1, t2.1.1.2.2.2.2.2.2.1, t2.1.1.2.2.2.2.2.2.2.1, t2.1.1.2.2.2.2.2.2.2.2.1, t2.1.1.2.2.2.2.2.2.2.2.2.1, ([] : List Int), ())).bind fun t10 =>
 bif t10.1.1 then
 some ((((iI (mget (.int .i64) (.int .i64) (mset (.int .i64) (.int .i64) (mset (.int .i64) (.int .i64) ([] : List (Int × Int)) (2048:Int) (4:Int)) (34525:Int) (6:Int)) t1.1.1.2.2.2.1)), (t1.1.1.1, t1.1.1.2.1, t1.1.1.2.2.1, t1.1.1.2.2.2.1, ([] : List Int), ()), (t2.1.1.1, t2.1.1.2.1, t2.1.1.2.2.1, t2.1.1.2.2.2.1, t2.1.1.2.2.2.2.1, t2.1.1.2.2.2.2.2.1, t2.1.1.2.2.2.2.2.2.1, t2.1.1.2.2.2.2.2.2.2.1, t2.1.1.2.2.2.2.2.2.2.2.1, t2.1.1.2.2.2.2.2.2.2.2.2.1, ([] : List Int), ()), zzS, ((0:Int), (0:Int), (0:Int), (0:Int), (0:Int), (0:Int), (0:Int), (0:Int), (0:Int), (0:Int), (0:Int), false, ([] : List Int), t2.1.1.2.2.2.2.2.2.2.2.2.2), t2.1.2.1, ()), (0:Int), ()), ())
 else
 impl_PacketRead_j1 k t1 t2
 else
 impl_PacketRead_j1 k t1 t2
 else
 (impl_SixRead k t1.1.1.2.2.2.2.1).bind fun t17 =>
 bif (!(decide (t17.1.2.2.1 = (0:Int)))) then
 bif (!(decide ((IntKind.wrap .i64 ((30:Int) + t17.1.2.2.1)) = (0:Int)))) then
 some ((zzP, (IntKind.wrap .i64 ((30:Int) + t17.1.2.2.1)), ()), ())
 else
 bif (decide ((iI (mget (.int .i64) (.int .i64) (mset (.int .i64) (.int .i64) (mset (.int .i64) (.int .i64) ([] : List (Int × Int)) (2048:Int) (4:Int)) (34525:Int) (6:Int)) t1.1.1.2.2.2.1)) = (4:Int))) then
 (impl_FourPiece zzF).bind fun t18 =>
 bif t18.1.1 then
 some ((((iI (mget (.int .i64) (.int .i64) (mset (.int .i64) (.int .i64) (mset (.int .i64) (.int .i64) ([] : List (Int × Int)) (2048:Int) (4:Int)) (34525:Int) (6:Int)) t1.1.1.2.2.2.1)), (t1.1.1.1, t1.1.1.2.1, t1.1.1.2.2.1, t1.1.1.2.2.2.1, ([] : List Int), ()), zzF, t17.1.1, zzU, t17.1.2.1, ()), (0:Int), ()), ())
 else
 impl_PacketRead_j2 k t1 t17
 else
 impl_PacketRead_j2 k t1 t17
 else
 bif (decide ((iI (mget (.int .i64) (.int .i64) (mset (.int .i64) (.int .i64) (mset (.int .i64) (.int .i64) ([] : List (Int × Int)) (2048:Int) (4:Int)) (34525:Int) (6:Int)) t1.1.1.2.2.2.1)) = (4:Int))) then
 (impl_FourPiece zzF).bind fun t25 =>
 bif t25.1.1 then
 some ((((iI (mget (.int .i64) (.int .i64) (mset (.int .i64) (.int .i64) (mset (.int .i64) (.int .i64) ([] : List (Int × Int)) (2048:Int) (4:Int)) (34525:Int) (6:Int)) t1.1.1.2.2.2.1)), (t1.1.1.1, t1.1.1.2.1, t1.1.1.2.2.1, t1.1.1.2.2.2.1, ([] : List Int), ()), zzF, (t17.1.1.1, t17.1.1.2.1, t17.1.1.2.2.1, t17.1.1.2.2.2.1, t17.1.1.2.2.2.2.1, t17.1.1.2.2.2.2.2.1, t17.1.1.2.2.2.2.2.2.1, ([] : List Int), ()), ((0:Int), (0:Int), (0:Int), (0:Int), (0:Int), (0:Int), (0:Int), (0:Int), (0:Int), (0:Int), (0:Int), false, ([] : List Int), t17.1.1.2.2.2.2.2.2.2), t17.1.2.1, ()), (0:Int), ()), ())
 else
 impl_PacketRead_j3 k t1 t17
 else
 impl_PacketRead_j3 k t1 t17
def impl_isZeroSix (k : Nat) (x0 : D_Six) : Option ((Bool × Unit) × Unit) :=
 (impl_areZero k ([x0.1, x0.2.1, x0.2.2.1, x0.2.2.2.1, (((List.length x0.2.2.2.2.2.2.1) : Nat) : Int), (((List.length x0.2.2.2.2.2.2.2.1) : Nat) : Int)] : List Int)).bind fun t1 =>
 bif t1.1.1 then
 bif ((decide (x0.2.2.2.2.1.1 = (0:Int))) && ((decide (x0.2.2.2.2.1.2.1 = (0:Int))) && ((decide (x0.2.2.2.2.1.2.2.1 = (0:Int))) && ((decide (x0.2.2.2.2.1.2.2.2.1 = (0:Int))) && ((decide (x0.2.2.2.2.1.2.2.2.2.1 = (0:Int))) && true))))) then
 some ((((decide (x0.2.2.2.2.2.1.1 = (0:Int))) && ((decide (x0.2.2.2.2.2.1.2.1 = (0:Int))) && ((decide (x0.2.2.2.2.2.1.2.2.1 = (0:Int))) && ((decide (x0.2.2.2.2.2.1.2.2.2.1 = (0:Int))) && ((decide (x0.2.2.2.2.2.1.2.2.2.2.1 = (0:Int))) && true))))), ()), ())
 else
 some ((false, ()), ())
 else
 some ((false, ()), ())
def impl_isZeroFour (k : Nat) (x0 : D_Four) : Option ((Bool × Unit) × Unit) :=
 (impl_areZero k ([x0.1, x0.2.1, x0.2.2.1, x0.2.2.2.1, x0.2.2.2.2.1, x0.2.2.2.2.2.1, x0.2.2.2.2.2.2.1, (((List.length x0.2.2.2.2.2.2.2.2.2.1) : Nat) : Int), (((List.length x0.2.2.2.2.2.2.2.2.2.2.1) : Nat) : Int)] : List Int)).bind fun t1 =>
 bif t1.1.1 then
 bif ((decide (x0.2.2.2.2.2.2.2.1.1 = (0:Int))) && ((decide (x0.2.2.2.2.2.2.2.1.2.1 = (0:Int))) && ((decide (x0.2.2.2.2.2.2.2.1.2.2.1 = (0:Int))) && ((decide (x0.2.2.2.2.2.2.2.1.2.2.2.1 = (0:Int))) && ((decide (x0.2.2.2.2.2.2.2.1.2.2.2.2.1 = (0:Int))) && true))))) then
 some ((((decide (x0.2.2.2.2.2.2.2.2.1.1 = (0:Int))) && ((decide (x0.2.2.2.2.2.2.2.2.1.2.1 = (0:Int))) && ((decide (x0.2.2.2.2.2.2.2.2.1.2.2.1 = (0:Int))) && ((decide (x0.2.2.2.2.2.2.2.2.1.2.2.2.1 = (0:Int))) && ((decide (x0.2.2.2.2.2.2.2.2.1.2.2.2.2.1 = (0:Int))) && true))))), ()), ())
 else
 some ((false, ()), ())
 else
 some ((false, ()), ())
def impl_UpperBytes (k : Nat) (x0 : D_Upper) (x1 : D_Addr) (x2 : D_Addr) : Option (((List Int) × Unit) × Unit) :=
 (impl_UpperSum k x0 x1 x2).bind fun t1 =>
 bif (decide (t1.1.1 < (0:Int))) then
 some ((([] : List Int), ()), ())
 else
 (impl_Upper_encoded k x0 t1.1.1).bind fun t2 =>
 some (t2.1, ())
def impl_FourBytes (k : Nat) (x0 : D_Four) : Option (((List Int) × Unit) × Unit) :=
 (impl_FourOk x0).bind fun t1 =>
 bif (!t1.1.1) then
 some ((([] : List Int), ()), ())
 else
 (impl_HeadSum k x0).bind fun t2 =>
 (impl_Four_head k x0 t2.1.1).bind fun t3 =>
 (slices_Concat_byte_byte k ([t3.1.1, x0.2.2.2.2.2.2.2.2.2.2.1] : List (List Int))).bind fun t4 =>
 some (t4.1, ())
def impl_areExts_s2 (rec : (Unit × ((List D_Ext) × ((List D_Ext) × (Int × (Int × Unit))))) → Option ((Unit × (Bool × Unit)) ⊕ (Unit × ((List D_Ext) × Unit)))) (v : (Unit × ((List D_Ext) × ((List D_Ext) × (Int × (Int × Unit)))))) : Option ((Unit × (Bool × Unit)) ⊕ (Unit × ((List D_Ext) × Unit))) :=
 bif (decide (v.2.2.2.2.1 < v.2.2.2.1)) then
 bif ((decide ((0:Int) ≤ v.2.2.2.2.1)) && (decide (v.2.2.2.2.1 < (((List.length v.2.2.1) : Nat) : Int)))) then
 bif (decide ((Int.toNat v.2.2.2.2.1) < (List.length v.2.2.1))) then
 (impl_isExtKind (List.getD v.2.2.1 (Int.toNat v.2.2.2.2.1) z_Ext).1).bind fun t1 =>
 bif (!(!t1.1.1)) then
 bif (decide ((0:Int) < v.2.2.2.2.1)) then
 bif (!(decide ((List.getD v.2.2.1 (Int.toNat v.2.2.2.2.1) z_Ext).1 = (0:Int)))) then
 bif (!(!(decide ((Int.tmod (((List.length (List.getD v.2.2.1 (Int.toNat v.2.2.2.2.1) z_Ext).2.1) : Nat) : Int) (8:Int)) = (6:Int))))) then
 bif (decide ((62:Int) < (((List.length (List.getD v.2.2.1 (Int.toNat v.2.2.2.2.1) z_Ext).2.1) : Nat) : Int))) then
 some (Sum.inl ((), false, ()))
 else
 rec ((), v.2.1, v.2.2.1, v.2.2.2.1, (IntKind.wrap .i64 (v.2.2.2.2.1 + (1:Int))), ())
 else
 some (Sum.inl ((), false, ()))
 else
 some (Sum.inl ((), false, ()))
 else
 bif (!(!(decide ((Int.tmod (((List.length (List.getD v.2.2.1 (Int.toNat v.2.2.2.2.1) z_Ext).2.1) : Nat) : Int) (8:Int)) = (6:Int))))) then
 bif (decide ((62:Int) < (((List.length (List.getD v.2.2.1 (Int.toNat v.2.2.2.2.1) z_Ext).2.1) : Nat) : Int))) then
 some (Sum.inl ((), false, ()))
 else
 rec ((), v.2.1, v.2.2.1, v.2.2.2.1, (IntKind.wrap .i64 (v.2.2.2.2.1 + (1:Int))), ())
 else
 some (Sum.inl ((), false, ()))
 else
 some (Sum.inl ((), false, ()))
 else none
 else none
 else
 some (Sum.inr ((), v.2.1, ()))
def impl_areExts (k : Nat) (x0 : (List D_Ext)) : Option ((Bool × Unit) × Unit) :=
 (iter (impl_areExts_s2) k ((), x0, x0, (((List.length x0) : Nat) : Int), (0:Int), ())).bind fun o1 =>
 Sum.elim (fun a2 =>
 some (a2.2, ()))
 (fun b3 =>
 some (((decide ((((List.length b3.2.1) : Nat) : Int) ≤ (3:Int))), ()), ())) o1
def impl_extsSize_s3 (rec : (Unit × (Int × ((List D_Ext) × (Int × (Int × Unit))))) → Option ((Unit × (Int × Unit)))) (v : (Unit × (Int × ((List D_Ext) × (Int × (Int × Unit)))))) : Option ((Unit × (Int × Unit))) :=
 bif (decide (v.2.2.2.2.1 < v.2.2.2.1)) then
 bif ((decide ((0:Int) ≤ v.2.2.2.2.1)) && (decide (v.2.2.2.2.1 < (((List.length v.2.2.1) : Nat) : Int)))) then
 bif (decide ((Int.toNat v.2.2.2.2.1) < (List.length v.2.2.1))) then
 rec ((), (IntKind.wrap .i64 (v.2.1 + (IntKind.wrap .i64 ((2:Int) + (((List.length (List.getD v.2.2.1 (Int.toNat v.2.2.2.2.1) z_Ext).2.1) : Nat) : Int))))), v.2.2.1, v.2.2.2.1, (IntKind.wrap .i64 (v.2.2.2.2.1 + (1:Int))), ())
 else none
 else none
 else
 some ((), v.2.1, ())
def impl_extsSize (k : Nat) (x0 : (List D_Ext)) : Option ((Int × Unit) × Unit) :=
 (iter (impl_extsSize_s3) k ((), (0:Int), x0, (((List.length x0) : Nat) : Int), (0:Int), ())).bind fun o1 =>
 some (o1.2, ())
def impl_SixOk (k : Nat) (x0 : D_Six) : Option ((Bool × Unit) × Unit) :=
 (impl_isByte x0.1).bind fun t1 =>
 bif (!(!t1.1.1)) then
 (impl_within x0.2.1 (0:Int) (1048575:Int)).bind fun t2 =>
 bif (!(!t2.1.1)) then
 (impl_isByte x0.2.2.1).bind fun t3 =>
 bif (!(!t3.1.1)) then
 (impl_isByte x0.2.2.2.1).bind fun t4 =>
 bif (!(!t4.1.1)) then
 (impl_isExtKind x0.2.2.2.1).bind fun t5 =>
 bif t5.1.1 then
 some ((false, ()), ())
 else
 (impl_isAddrOf x0.2.2.2.2.1 (6:Int)).bind fun t6 =>
 bif t6.1.1 then
 (impl_isAddrOf x0.2.2.2.2.2.1 (6:Int)).bind fun t7 =>
 bif t7.1.1 then
 (impl_areExts k x0.2.2.2.2.2.2.1).bind fun t8 =>
 bif t8.1.1 then
 (impl_extsSize k x0.2.2.2.2.2.2.1).bind fun t9 =>
 some (((decide ((IntKind.wrap .i64 ((IntKind.wrap .i64 ((40:Int) + t9.1.1)) + (((List.length x0.2.2.2.2.2.2.2.1) : Nat) : Int))) ≤ (1500:Int))), ()), ())
 else
 some ((false, ()), ())
 else
 some ((false, ()), ())
 else
 some ((false, ()), ())
 else
 some ((false, ()), ())
 else
 some ((false, ()), ())
 else
 some ((false, ()), ())
 else
 some ((false, ()), ())
def impl_SixBytes_1 (x0 : Int) (x1 : D_Six) : Option ((Int × Unit) × Unit) :=
 bif (decide (x0 < (((List.length x1.2.2.2.2.2.2.1) : Nat) : Int))) then
 bif ((decide ((0:Int) ≤ x0)) && (decide (x0 < (((List.length x1.2.2.2.2.2.2.1) : Nat) : Int)))) then
 bif (decide ((Int.toNat x0) < (List.length x1.2.2.2.2.2.2.1))) then
 some (((IntKind.wrap .u8 (List.getD x1.2.2.2.2.2.2.1 (Int.toNat x0) z_Ext).1), ()), ())
 else none
 else none
 else
 some (((IntKind.wrap .u8 x1.2.2.2.1), ()), ())
def impl_SixBytes_s7 (rec : (Unit × (Unit × (D_Six × ((List Int) × ((List D_Ext) × (Int × (Int × Unit))))))) → Option ((Unit × (D_Six × ((List Int) × Unit))))) (v : (Unit × (Unit × (D_Six × ((List Int) × ((List D_Ext) × (Int × (Int × Unit)))))))) : Option ((Unit × (D_Six × ((List Int) × Unit)))) :=
 bif (decide (v.2.2.2.2.2.2.1 < v.2.2.2.2.2.1)) then
 bif ((decide ((0:Int) ≤ v.2.2.2.2.2.2.1)) && (decide (v.2.2.2.2.2.2.1 < (((List.length v.2.2.2.2.1) : Nat) : Int)))) then
 bif (decide ((Int.toNat v.2.2.2.2.2.2.1) < (List.length v.2.2.2.2.1))) then
 (impl_SixBytes_1 (IntKind.wrap .i64 (v.2.2.2.2.2.2.1 + (1:Int))) v.2.2.1).bind fun t9 =>
 bif (decide ((((List.length v.2.2.2.1) + (2:Nat)) * 1) ≤ (1099511627776:Nat))) then
 bif (decide ((((List.length (v.2.2.2.1 ++ ([t9.1.1, (IntKind.wrap .u8 (IntKind.wrap .i64 ((IntKind.wrap .i64 (Int.tdiv (IntKind.wrap .i64 ((2:Int) + (((List.length (List.getD v.2.2.2.2.1 (Int.toNat v.2.2.2.2.2.2.1) z_Ext).2.1) : Nat) : Int))) (8:Int))) - (1:Int))))] : List Int))) + (List.length (List.getD v.2.2.2.2.1 (Int.toNat v.2.2.2.2.2.2.1) z_Ext).2.1)) * 1) ≤ (1099511627776:Nat))) then
 rec ((), (), v.2.2.1, ((v.2.2.2.1 ++ ([t9.1.1, (IntKind.wrap .u8 (IntKind.wrap .i64 ((IntKind.wrap .i64 (Int.tdiv (IntKind.wrap .i64 ((2:Int) + (((List.length (List.getD v.2.2.2.2.1 (Int.toNat v.2.2.2.2.2.2.1) z_Ext).2.1) : Nat) : Int))) (8:Int))) - (1:Int))))] : List Int)) ++ (List.getD v.2.2.2.2.1 (Int.toNat v.2.2.2.2.2.2.1) z_Ext).2.1), v.2.2.2.2.1, v.2.2.2.2.2.1, (IntKind.wrap .i64 (v.2.2.2.2.2.2.1 + (1:Int))), ())
 else none
 else none
 else none
 else none
 else
 some ((), v.2.2.1, v.2.2.2.1, ())
def impl_SixBytes (k : Nat) (x0 : D_Six) : Option (((List Int) × Unit) × Unit) :=
 (impl_SixOk k x0).bind fun t1 =>
 bif (!t1.1.1) then
 some ((([] : List Int), ()), ())
 else
 (impl_extsSize k x0.2.2.2.2.2.2.1).bind fun t2 =>
 (impl_Put32 k (IntKind.wrap .i64 (BitVec.ofInt (IntKind.bits .i64) (IntKind.wrap .i64 (BitVec.ofInt (IntKind.bits .i64) (1610612736:Int) ||| BitVec.ofInt (IntKind.bits .i64) (IntKind.wrap .i64 (x0.1 * 2 ^ min (Int.toNat (20:Int)) (IntKind.bits .i64)))).toNat) ||| BitVec.ofInt (IntKind.bits .i64) x0.2.1).toNat)).bind fun t3 =>
 (impl_Put16 k (IntKind.wrap .i64 (t2.1.1 + (((List.length x0.2.2.2.2.2.2.2.1) : Nat) : Int)))).bind fun t4 =>
 (impl_SixBytes_1 (0:Int) x0).bind fun t5 =>
 (impl_AddrBytes k x0.2.2.2.2.1).bind fun t6 =>
 (impl_AddrBytes k x0.2.2.2.2.2.1).bind fun t7 =>
 (slices_Concat_byte_byte k ([t3.1.1, t4.1.1, ([t5.1.1, (IntKind.wrap .u8 x0.2.2.1)] : List Int), t6.1.1, t7.1.1] : List (List Int))).bind fun t8 =>
 (iter (impl_SixBytes_s7) k ((), (), x0, t8.1.1, x0.2.2.2.2.2.2.1, (((List.length x0.2.2.2.2.2.2.1) : Nat) : Int), (0:Int), ())).bind fun o9 =>
 bif (decide ((((List.length o9.2.2.1) + (List.length o9.2.1.2.2.2.2.2.2.2.1)) * 1) ≤ (1099511627776:Nat))) then
 some (((o9.2.2.1 ++ o9.2.1.2.2.2.2.2.2.2.1), ()), ())
 else none
def impl_Packet_inner (k : Nat) (x0 : D_Packet) : Option (((List Int) × (Bool × Unit)) × Unit) :=
 (impl_Packet_ends x0).bind fun t1 =>
 (impl_UpperSum k x0.2.2.2.2.1 t1.1.1 t1.1.2.1).bind fun t2 =>
 bif (decide (t2.1.1 < (0:Int))) then
 some ((([] : List Int), false, ()), ())
 else
 (impl_UpperBytes k x0.2.2.2.2.1 t1.1.1 t1.1.2.1).bind fun t3 =>
 bif (decide (x0.1 = (4:Int))) then
 (impl_FourPiece (x0.2.2.1.1, x0.2.2.1.2.1, x0.2.2.1.2.2.1, x0.2.2.1.2.2.2.1, x0.2.2.1.2.2.2.2.1, x0.2.2.1.2.2.2.2.2.1, x0.2.2.1.2.2.2.2.2.2.1, x0.2.2.1.2.2.2.2.2.2.2.1, x0.2.2.1.2.2.2.2.2.2.2.2.1, x0.2.2.1.2.2.2.2.2.2.2.2.2.1, t3.1)).bind fun t4 =>
 bif (!t4.1.1) then
 (impl_UpperKind x0.2.2.1.2.2.2.2.2.2.1 (4:Int)).bind fun t5 =>
 (impl_FourBytes k (x0.2.2.1.1, x0.2.2.1.2.1, x0.2.2.1.2.2.1, x0.2.2.1.2.2.2.1, x0.2.2.1.2.2.2.2.1, x0.2.2.1.2.2.2.2.2.1, x0.2.2.1.2.2.2.2.2.2.1, x0.2.2.1.2.2.2.2.2.2.2.1, x0.2.2.1.2.2.2.2.2.2.2.2.1, x0.2.2.1.2.2.2.2.2.2.2.2.2.1, t3.1)).bind fun t6 =>
 (impl_FourOk (x0.2.2.1.1, x0.2.2.1.2.1, x0.2.2.1.2.2.1, x0.2.2.1.2.2.2.1, x0.2.2.1.2.2.2.2.1, x0.2.2.1.2.2.2.2.2.1, x0.2.2.1.2.2.2.2.2.2.1, x0.2.2.1.2.2.2.2.2.2.2.1, x0.2.2.1.2.2.2.2.2.2.2.2.1, x0.2.2.1.2.2.2.2.2.2.2.2.2.1, t3.1)).bind fun t7 =>
 bif t7.1.1 then
 some ((t6.1.1, (decide (x0.2.2.2.2.1.1 = t5.1.1)), ()), ())
 else
 some ((t6.1.1, false, ()), ())
 else
 (impl_FourBytes k (x0.2.2.1.1, x0.2.2.1.2.1, x0.2.2.1.2.2.1, x0.2.2.1.2.2.2.1, x0.2.2.1.2.2.2.2.1, x0.2.2.1.2.2.2.2.2.1, x0.2.2.1.2.2.2.2.2.2.1, x0.2.2.1.2.2.2.2.2.2.2.1, x0.2.2.1.2.2.2.2.2.2.2.2.1, x0.2.2.1.2.2.2.2.2.2.2.2.2.1, t3.1)).bind fun t8 =>
 (impl_FourOk (x0.2.2.1.1, x0.2.2.1.2.1, x0.2.2.1.2.2.1, x0.2.2.1.2.2.2.1, x0.2.2.1.2.2.2.2.1, x0.2.2.1.2.2.2.2.2.1, x0.2.2.1.2.2.2.2.2.2.1, x0.2.2.1.2.2.2.2.2.2.2.1, x0.2.2.1.2.2.2.2.2.2.2.2.1, x0.2.2.1.2.2.2.2.2.2.2.2.2.1, t3.1)).bind fun t9 =>
 bif t9.1.1 then
 some ((t8.1.1, (decide (x0.2.2.2.2.1.1 = (0:Int))), ()), ())
 else
 some ((t8.1.1, false, ()), ())
 else
 (impl_SixBytes k (x0.2.2.2.1.1, x0.2.2.2.1.2.1, x0.2.2.2.1.2.2.1, x0.2.2.2.1.2.2.2.1, x0.2.2.2.1.2.2.2.2.1, x0.2.2.2.1.2.2.2.2.2.1, x0.2.2.2.1.2.2.2.2.2.2.1, t3.1)).bind fun t10 =>
 (impl_SixOk k (x0.2.2.2.1.1, x0.2.2.2.1.2.1, x0.2.2.2.1.2.2.1, x0.2.2.2.1.2.2.2.1, x0.2.2.2.1.2.2.2.2.1, x0.2.2.2.1.2.2.2.2.2.1, x0.2.2.2.1.2.2.2.2.2.2.1, t3.1)).bind fun t11 =>
 bif t11.1.1 then
 (impl_UpperKind x0.2.2.2.1.2.2.2.1 (6:Int)).bind fun t12 =>
 some ((t10.1.1, (decide (x0.2.2.2.2.1.1 = t12.1.1)), ()), ())
 else
 some ((t10.1.1, false, ()), ())
def impl_EtherOk (x0 : D_Ether) : Option ((Bool × Unit) × Unit) :=
 (impl_within x0.1 (0:Int) (281474976710655:Int)).bind fun t1 =>
 bif t1.1.1 then
 (impl_within x0.2.1 (0:Int) (281474976710655:Int)).bind fun t2 =>
 bif t2.1.1 then
 (impl_within x0.2.2.1 (-1:Int) (65535:Int)).bind fun t3 =>
 bif t3.1.1 then
 (impl_isKind x0.2.2.2.1).bind fun t4 =>
 bif t4.1.1 then
 (impl_headOf x0).bind fun t5 =>
 some (((decide ((IntKind.wrap .i64 (t5.1.1 + (((List.length x0.2.2.2.2.1) : Nat) : Int))) ≤ (1600:Int))), ()), ())
 else
 some ((false, ()), ())
 else
 some ((false, ()), ())
 else
 some ((false, ()), ())
 else
 some ((false, ()), ())
abbrev impl_Packet_frame_j1 (k : Nat) (x0 : D_Packet) : Option ((D_Ether × (Bool × Unit)) × Unit) :=
 (impl_areZero k ([(((List.length x0.2.1.2.2.2.2.1) : Nat) : Int), (((List.length x0.2.2.1.2.2.2.2.2.2.2.2.2.2.1) : Nat) : Int), (((List.length x0.2.2.2.1.2.2.2.2.2.2.2.1) : Nat) : Int)] : List Int)).bind fun t3 =>
 bif (!t3.1.1) then
 some ((zzE, false, ()), ())
 else
 (impl_Packet_inner k x0).bind fun t4 =>
 (slices_Concat_byte_byte k ([t4.1.1, x0.2.2.2.2.2.1] : List (List Int))).bind fun t5 =>
 bif t4.1.2.1 then
 (impl_EtherOk (x0.2.1.1, x0.2.1.2.1, x0.2.1.2.2.1, x0.2.1.2.2.2.1, t5.1)).bind fun t6 =>
 some (((x0.2.1.1, x0.2.1.2.1, x0.2.1.2.2.1, x0.2.1.2.2.2.1, t5.1), t6.1), ())
 else
 some (((x0.2.1.1, x0.2.1.2.1, x0.2.1.2.2.1, x0.2.1.2.2.2.1, t5.1), false, ()), ())
abbrev impl_Packet_frame_j0 (k : Nat) (x0 : D_Packet) : Option ((D_Ether × (Bool × Unit)) × Unit) :=
 bif (decide (x0.1 = (6:Int))) then
 (impl_isZeroFour k x0.2.2.1).bind fun t2 =>
 bif t2.1.1 then
 bif (!(!(decide (x0.2.1.2.2.2.1 = (34525:Int))))) then
 impl_Packet_frame_j1 k x0
 else
 some ((zzE, false, ()), ())
 else
 some ((zzE, false, ()), ())
 else
 some ((zzE, false, ()), ())
def impl_Packet_frame (k : Nat) (x0 : D_Packet) : Option ((D_Ether × (Bool × Unit)) × Unit) :=
 bif (decide (x0.1 = (4:Int))) then
 (impl_isZeroSix k x0.2.2.2.1).bind fun t1 =>
 bif t1.1.1 then
 bif (!(decide (x0.2.1.2.2.2.1 = (2048:Int)))) then
 impl_Packet_frame_j0 k x0
 else
 impl_Packet_frame_j1 k x0
 else
 impl_Packet_frame_j0 k x0
 else
 impl_Packet_frame_j0 k x0
def impl_EtherBytes (k : Nat) (x0 : D_Ether) : Option (((List Int) × Unit) × Unit) :=
 (impl_EtherOk x0).bind fun t1 =>
 bif (!t1.1.1) then
 some ((([] : List Int), ()), ())
 else
 bif (decide ((0:Int) ≤ x0.2.2.1)) then
 (impl_Put16 k (33024:Int)).bind fun t2 =>
 (impl_Put16 k x0.2.2.1).bind fun t3 =>
 (slices_Concat_byte_byte k ([t2.1.1, t3.1.1] : List (List Int))).bind fun t4 =>
 (impl_put k x0.1 (6:Int)).bind fun t5 =>
 (impl_put k x0.2.1 (6:Int)).bind fun t6 =>
 (impl_Put16 k x0.2.2.2.1).bind fun t7 =>
 (slices_Concat_byte_byte k ([t5.1.1, t6.1.1, t4.1.1, t7.1.1, x0.2.2.2.2.1] : List (List Int))).bind fun t8 =>
 some (t8.1, ())
 else
 (impl_put k x0.1 (6:Int)).bind fun t9 =>
 (impl_put k x0.2.1 (6:Int)).bind fun t10 =>
 (impl_Put16 k x0.2.2.2.1).bind fun t11 =>
 (slices_Concat_byte_byte k ([t9.1.1, t10.1.1, ([] : List Int), t11.1.1, x0.2.2.2.2.1] : List (List Int))).bind fun t12 =>
 some (t12.1, ())
def impl_PacketBytes (k : Nat) (x0 : D_Packet) : Option (((List Int) × Unit) × Unit) :=
 (impl_Packet_frame k x0).bind fun t1 =>
 bif (!t1.1.2.1) then
 some ((([] : List Int), ()), ())
 else
 (impl_EtherBytes k t1.1.1).bind fun t2 =>
 some (t2.1, ())
def laws_FnPacketForth (k : Nat) (x0 : (List Int)) : Option ((Bool × Unit) × Unit) :=
 (laws_big x0).bind fun t1 =>
 bif t1.1.1 then
 some ((true, ()), ())
 else
 (spec_DrawPacketRead k x0).bind fun t2 =>
 (spec_PacketRead k t2.1.1).bind fun t3 =>
 (laws_bytesOf t2.1.1).bind fun t4 =>
 (impl_PacketRead k t4.1.1).bind fun t5 =>
 bif (!(decide (t5.1.2.1 = t3.1.2.1))) then
 some ((false, ()), ())
 else
 bif (!(!(decide (t5.1.2.1 = (0:Int))))) then
 (impl_PacketBytes k t5.1.1).bind fun t6 =>
 some (((decide ((strOf t6.1.1).data.toList = (strOf t2.1.1).data.toList)), ()), ())
 else
 some ((true, ()), ())
end Go.Tw
