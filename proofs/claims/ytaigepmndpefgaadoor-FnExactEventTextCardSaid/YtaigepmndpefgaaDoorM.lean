/- The mirrors of the functions as plain definitions, by which proofs go on. -/
import Derived.Test.YtaigepmndpefgaaDoorPe3
set_option linter.all false
namespace Go.Tw
open Go Go.RowKit
abbrev T_Out : Ty := (.pr (.int .i64) (.pr (.int .i64) (.pr (.int .i64) (.pr (.sl (.int .u8)) (.pr (.sl (.int .i64)) .un)))))
abbrev D_Out := (Int × (Int × (Int × ((List Int) × ((List Int) × Unit)))))
def z_Out : D_Out := ((0 : Int), ((0 : Int), ((0 : Int), ([], ([], ())))))
abbrev T_Left : Ty := (.pr (.int .i64) (.pr (.sl (.int .i64)) (.pr (.sl (.int .i64)) (.pr (.int .i64) (.pr (.int .i64) .un)))))
abbrev D_Left := (Int × ((List Int) × ((List Int) × (Int × (Int × Unit)))))
def z_Left : D_Left := ((0 : Int), ([], ([], ((0 : Int), ((0 : Int), ())))))
abbrev T_Vec : Ty := (.pr (.int .i64) (.pr (.int .i64) (.pr (.int .i64) .un)))
abbrev D_Vec := (Int × (Int × (Int × Unit)))
def z_Vec : D_Vec := ((0 : Int), ((0 : Int), ((0 : Int), ())))
abbrev T_Event : Ty := (.pr (.int .i64) (.pr (.int .i64) (.pr (.sl (.int .u8)) (.pr T_Vec .un))))
abbrev D_Event := (Int × (Int × ((List Int) × (D_Vec × Unit))))
def z_Event : D_Event := ((0 : Int), ((0 : Int), ([], (z_Vec, ()))))
abbrev T_Prof : Ty := (.pr T_Vec (.pr T_Vec .un))
abbrev D_Prof := (D_Vec × (D_Vec × Unit))
def z_Prof : D_Prof := (z_Vec, (z_Vec, ()))
abbrev T_Limits : Ty := (.pr (.int .i64) (.pr (.int .i64) (.pr (.int .i64) (.pr (.int .i64) (.pr .bool .un)))))
abbrev D_Limits := (Int × (Int × (Int × (Int × (Bool × Unit)))))
def z_Limits : D_Limits := ((0 : Int), ((0 : Int), ((0 : Int), ((0 : Int), (false, ())))))
abbrev T_Conf : Ty := (.pr (.int .i64) (.pr (.int .i64) (.pr (.int .i64) (.pr (.int .i64) (.pr (.int .i64) (.pr T_Limits (.pr (.sl T_Prof) .un)))))))
abbrev D_Conf := (Int × (Int × (Int × (Int × (Int × (D_Limits × ((List D_Prof) × Unit)))))))
def z_Conf : D_Conf := ((0 : Int), ((0 : Int), ((0 : Int), ((0 : Int), ((0 : Int), (z_Limits, ([], ())))))))
abbrev T_Addr : Ty := (.pr (.int .i64) (.pr (.int .i64) T_Vec))
abbrev D_Addr := (Int × (Int × D_Vec))
def z_Addr : D_Addr := ((0 : Int), ((0 : Int), z_Vec))
abbrev T_Key : Ty := (.pr T_Addr (.pr T_Addr T_Vec))
abbrev D_Key := (D_Addr × (D_Addr × D_Vec))
def z_Key : D_Key := (z_Addr, (z_Addr, z_Vec))
abbrev T_FlowKey : Ty := (.pr (.int .i64) (.pr T_Key .un))
abbrev D_FlowKey := (Int × (D_Key × Unit))
def z_FlowKey : D_FlowKey := ((0 : Int), (z_Key, ()))
abbrev T_Cell : Ty := (.pr .bool (.pr T_FlowKey (.pr (.int .i64) .un)))
abbrev D_Cell := (Bool × (D_FlowKey × (Int × Unit)))
def z_Cell : D_Cell := (false, (z_FlowKey, ((0 : Int), ())))
abbrev T_Table : Ty := (.pr (.int .i64) (.pr (.sl T_Cell) .un))
abbrev D_Table := (Int × ((List D_Cell) × Unit))
def z_Table : D_Table := ((0 : Int), ([], ()))
abbrev T_Job : Ty := (.pr (.int .i64) (.pr T_Vec .un))
abbrev D_Job := (Int × (D_Vec × Unit))
def z_Job : D_Job := ((0 : Int), (z_Vec, ()))
abbrev T_Line : Ty := (.pr (.int .i64) (.pr (.sl T_Job) (.pr (.sl T_Job) (.pr (.sl T_Job) .un))))
abbrev D_Line := (Int × ((List D_Job) × ((List D_Job) × ((List D_Job) × Unit))))
def z_Line : D_Line := ((0 : Int), ([], ([], ([], ()))))
def laws_szByteS (x0 : (List Int)) (x1 : Int) : Option ((Int × Unit) × Unit) :=
  bif (decide ((IntKind.wrap .i64 (x1 - (((List.length x0) : Nat) : Int))) < (0 : Int))) then
    some (((-1 : Int), ()), ())
  else
    some (((IntKind.wrap .i64 (x1 - (((List.length x0) : Nat) : Int))), ()), ())
def laws_szIntS (x0 : (List Int)) (x1 : Int) : Option ((Int × Unit) × Unit) :=
  bif (decide ((IntKind.wrap .i64 (x1 - (((List.length x0) : Nat) : Int))) < (0 : Int))) then
    some (((-1 : Int), ()), ())
  else
    some (((IntKind.wrap .i64 (x1 - (((List.length x0) : Nat) : Int))), ()), ())
def laws_szOut (x0 : D_Out) (x1 : Int) : Option ((Int × Unit) × Unit) :=
  (laws_szByteS x0.2.2.2.1 x1).bind fun t1 =>
    bif (decide (t1.1.1 < (0 : Int))) then
      some (((-1 : Int), ()), ())
    else
      (laws_szIntS x0.2.2.2.2.1 t1.1.1).bind fun t2 =>
        bif (decide (t2.1.1 < (0 : Int))) then
          some (((-1 : Int), ()), ())
        else
          some (t2.1, ())
def laws_toByteS_s3 (rec : (Unit × ((List Int) × ((List Int) × (Int × Unit)))) → Option ((Unit × ((List Int) × Unit)))) (v : (Unit × ((List Int) × ((List Int) × (Int × Unit))))) : Option ((Unit × ((List Int) × Unit))) :=
  bif (decide (v.2.2.2.1 < (((List.length v.2.1) : Nat) : Int))) then
    bif ((decide ((0 : Int) ≤ v.2.2.2.1)) && (decide (v.2.2.2.1 < (((List.length v.2.1) : Nat) : Int)))) then
      bif (decide ((Int.toNat v.2.2.2.1) < (List.length v.2.1))) then
        bif ((decide ((0 : Int) ≤ v.2.2.2.1)) && (decide (v.2.2.2.1 < (((List.length v.2.2.1) : Nat) : Int)))) then
          bif (decide ((Int.toNat v.2.2.2.1) < (List.length v.2.2.1))) then
            let y1 : (List Int) := (List.set v.2.2.1 (Int.toNat v.2.2.2.1) (List.getD v.2.1 (Int.toNat v.2.2.2.1) (0 : Int)))
            rec ((), v.2.1, y1, (IntKind.wrap .i64 (v.2.2.2.1 + (1 : Int))), ())
          else none
        else none
      else none
    else none
  else
    some ((), v.2.2.1, ())
def laws_toByteS (k : Nat) (x0 : (List Int)) : Option (((List Int) × Unit) × Unit) :=
  bif (((decide ((0 : Int) ≤ (((List.length x0) : Nat) : Int))) && (decide ((((List.length x0) : Nat) : Int) ≤ (((List.length x0) : Nat) : Int)))) && (decide (((1 : Int) * (((List.length x0) : Nat) : Int)) ≤ (1099511627776 : Int)))) then
    (iter (laws_toByteS_s3) k ((), x0, (List.replicate (List.length x0) (0 : Int)), (0 : Int), ())).bind fun o1 =>
      some (o1.2, ())
  else none
def laws_toIntS_s3 (rec : (Unit × ((List Int) × ((List Int) × (Int × Unit)))) → Option ((Unit × ((List Int) × Unit)))) (v : (Unit × ((List Int) × ((List Int) × (Int × Unit))))) : Option ((Unit × ((List Int) × Unit))) :=
  bif (decide (v.2.2.2.1 < (((List.length v.2.1) : Nat) : Int))) then
    bif ((decide ((0 : Int) ≤ v.2.2.2.1)) && (decide (v.2.2.2.1 < (((List.length v.2.1) : Nat) : Int)))) then
      bif (decide ((Int.toNat v.2.2.2.1) < (List.length v.2.1))) then
        bif ((decide ((0 : Int) ≤ v.2.2.2.1)) && (decide (v.2.2.2.1 < (((List.length v.2.2.1) : Nat) : Int)))) then
          bif (decide ((Int.toNat v.2.2.2.1) < (List.length v.2.2.1))) then
            let y1 : (List Int) := (List.set v.2.2.1 (Int.toNat v.2.2.2.1) (List.getD v.2.1 (Int.toNat v.2.2.2.1) (0 : Int)))
            rec ((), v.2.1, y1, (IntKind.wrap .i64 (v.2.2.2.1 + (1 : Int))), ())
          else none
        else none
      else none
    else none
  else
    some ((), v.2.2.1, ())
def laws_toIntS (k : Nat) (x0 : (List Int)) : Option (((List Int) × Unit) × Unit) :=
  bif (((decide ((0 : Int) ≤ (((List.length x0) : Nat) : Int))) && (decide ((((List.length x0) : Nat) : Int) ≤ (((List.length x0) : Nat) : Int)))) && (decide (((8 : Int) * (((List.length x0) : Nat) : Int)) ≤ (1099511627776 : Int)))) then
    (iter (laws_toIntS_s3) k ((), x0, (List.replicate (List.length x0) (0 : Int)), (0 : Int), ())).bind fun o1 =>
      some (o1.2, ())
  else none
def laws_toOut (k : Nat) (x0 : D_Out) : Option ((D_Out × Unit) × Unit) :=
  (laws_toByteS k x0.2.2.2.1).bind fun t1 =>
    (laws_toIntS k x0.2.2.2.2.1).bind fun t2 =>
      some (((x0.1, x0.2.1, x0.2.2.1, t1.1.1, t2.1), ()), ())
def spec_NumText_s5 (rec : (Unit × (Int × ((List Int) × (Int × Unit)))) → Option ((Unit × (Int × ((List Int) × Unit))))) (v : (Unit × (Int × ((List Int) × (Int × Unit))))) : Option ((Unit × (Int × ((List Int) × Unit)))) :=
  bif (!(decide (v.2.2.2.1 = (0 : Int)))) then
    bif (decide ((Int.tmod v.2.2.2.1 (10 : Int)) < (0 : Int))) then
      bif (decide ((((1 : Nat) + (List.length v.2.2.1)) * 1) ≤ (1099511627776 : Nat))) then
        rec ((), v.2.1, (([(IntKind.wrap .u8 (IntKind.wrap .i64 ((48 : Int) + (IntKind.wrap .i64 ((0 : Int) - (Int.tmod v.2.2.2.1 (10 : Int)))))))] : List Int) ++ v.2.2.1), (IntKind.wrap .i64 (Int.tdiv v.2.2.2.1 (10 : Int))), ())
      else none
    else
      bif (decide ((((1 : Nat) + (List.length v.2.2.1)) * 1) ≤ (1099511627776 : Nat))) then
        rec ((), v.2.1, (([(IntKind.wrap .u8 (IntKind.wrap .i64 ((48 : Int) + (Int.tmod v.2.2.2.1 (10 : Int)))))] : List Int) ++ v.2.2.1), (IntKind.wrap .i64 (Int.tdiv v.2.2.2.1 (10 : Int))), ())
      else none
  else
    some ((), v.2.1, v.2.2.1, ())
def spec_NumText (k : Nat) (x0 : Int) : Option ((ByteArray × Unit) × Unit) :=
  bif (decide (x0 = (0 : Int))) then
    some (((⟨#[48]⟩ : ByteArray), ()), ())
  else
    (iter (spec_NumText_s5) k ((), x0, ([] : List Int), x0, ())).bind fun o1 =>
      bif (decide (o1.2.1 < (0 : Int))) then
        bif (decide ((((1 : Nat) + (List.length o1.2.2.1)) * 1) ≤ (1099511627776 : Nat))) then
          some (((strOf (([(45 : Int)] : List Int) ++ o1.2.2.1)), ()), ())
        else none
      else
        some (((strOf o1.2.2.1), ()), ())
def spec_l01Digit (x0 : Int) : Option ((Int × Unit) × Unit) :=
  bif (decide (x0 < (10 : Int))) then
    some (((IntKind.wrap .u8 (IntKind.wrap .i64 ((48 : Int) + x0))), ()), ())
  else
    some (((IntKind.wrap .u8 (IntKind.wrap .i64 ((87 : Int) + x0))), ()), ())
def spec_HexText_s5 (rec : (Unit × ((List Int) × ((List Int) × (Int × Unit)))) → Option ((Unit × ((List Int) × Unit)))) (v : (Unit × ((List Int) × ((List Int) × (Int × Unit))))) : Option ((Unit × ((List Int) × Unit))) :=
  bif (decide (v.2.2.2.1 < (((List.length v.2.1) : Nat) : Int))) then
    bif ((decide ((0 : Int) ≤ v.2.2.2.1)) && (decide (v.2.2.2.1 < (((List.length v.2.1) : Nat) : Int)))) then
      bif (decide ((Int.toNat v.2.2.2.1) < (List.length v.2.1))) then
        (spec_l01Digit (IntKind.wrap .i64 (Int.tdiv (IntKind.wrap .i64 (List.getD v.2.1 (Int.toNat v.2.2.2.1) (0 : Int))) (16 : Int)))).bind fun t1 =>
          bif ((decide ((0 : Int) ≤ v.2.2.2.1)) && (decide (v.2.2.2.1 < (((List.length v.2.1) : Nat) : Int)))) then
            bif (decide ((Int.toNat v.2.2.2.1) < (List.length v.2.1))) then
              (spec_l01Digit (Int.tmod (IntKind.wrap .i64 (List.getD v.2.1 (Int.toNat v.2.2.2.1) (0 : Int))) (16 : Int))).bind fun t2 =>
                bif (decide ((((List.length v.2.2.1) + (2 : Nat)) * 1) ≤ (1099511627776 : Nat))) then
                  rec ((), v.2.1, (v.2.2.1 ++ ([t1.1.1, t2.1.1] : List Int)), (IntKind.wrap .i64 (v.2.2.2.1 + (1 : Int))), ())
                else none
            else none
          else none
      else none
    else none
  else
    some ((), v.2.2.1, ())
def spec_HexText (k : Nat) (x0 : (List Int)) : Option ((ByteArray × Unit) × Unit) :=
  bif (decide ((4000 : Int) < (((List.length x0) : Nat) : Int))) then
    some (((⟨#[]⟩ : ByteArray), ()), ())
  else
    (iter (spec_HexText_s5) k ((), x0, ([] : List Int), (0 : Int), ())).bind fun o1 =>
      some (((strOf o1.2.1), ()), ())
def spec_OutText_s13 (k : Nat) (rec : (Unit × (D_Out × (ByteArray × (Int × Unit)))) → Option ((Unit × (ByteArray × Unit)))) (v : (Unit × (D_Out × (ByteArray × (Int × Unit))))) : Option ((Unit × (ByteArray × Unit))) :=
  bif (decide (v.2.2.2.1 < (((List.length v.2.1.2.2.2.2.1) : Nat) : Int))) then
    bif (decide (((ByteArray.size v.2.2.1) + (ByteArray.size (⟨#[32]⟩ : ByteArray))) ≤ (1099511627776 : Nat))) then
      bif ((decide ((0 : Int) ≤ v.2.2.2.1)) && (decide (v.2.2.2.1 < (((List.length v.2.1.2.2.2.2.1) : Nat) : Int)))) then
        bif (decide ((Int.toNat v.2.2.2.1) < (List.length v.2.1.2.2.2.2.1))) then
          (spec_NumText k (List.getD v.2.1.2.2.2.2.1 (Int.toNat v.2.2.2.1) (0 : Int))).bind fun t6 =>
            bif (decide (((ByteArray.size (v.2.2.1 ++ (⟨#[32]⟩ : ByteArray))) + (ByteArray.size t6.1.1)) ≤ (1099511627776 : Nat))) then
              rec ((), v.2.1, ((v.2.2.1 ++ (⟨#[32]⟩ : ByteArray)) ++ t6.1.1), (IntKind.wrap .i64 (v.2.2.2.1 + (1 : Int))), ())
            else none
        else none
      else none
    else none
  else
    some ((), v.2.2.1, ())
def spec_OutText (k : Nat) (x0 : D_Out) : Option ((ByteArray × Unit) × Unit) :=
  bif (!(decide ((100 : Int) < (((List.length x0.2.2.2.2.1) : Nat) : Int)))) then
    bif (decide ((4000 : Int) < (((List.length x0.2.2.2.1) : Nat) : Int))) then
      some (((⟨#[]⟩ : ByteArray), ()), ())
    else
      bif (decide (x0.1 = (1 : Int))) then
        (spec_NumText k x0.2.1).bind fun t1 =>
          bif (decide (((ByteArray.size (⟨#[115, 101, 110, 116, 32]⟩ : ByteArray)) + (ByteArray.size t1.1.1)) ≤ (1099511627776 : Nat))) then
            bif (decide (((ByteArray.size ((⟨#[115, 101, 110, 116, 32]⟩ : ByteArray) ++ t1.1.1)) + (ByteArray.size (⟨#[32]⟩ : ByteArray))) ≤ (1099511627776 : Nat))) then
              (spec_HexText k x0.2.2.2.1).bind fun t2 =>
                bif (decide (((ByteArray.size (((⟨#[115, 101, 110, 116, 32]⟩ : ByteArray) ++ t1.1.1) ++ (⟨#[32]⟩ : ByteArray))) + (ByteArray.size t2.1.1)) ≤ (1099511627776 : Nat))) then
                  some ((((((⟨#[115, 101, 110, 116, 32]⟩ : ByteArray) ++ t1.1.1) ++ (⟨#[32]⟩ : ByteArray)) ++ t2.1.1), ()), ())
                else none
            else none
          else none
      else
        bif (decide (x0.1 = (2 : Int))) then
          (spec_NumText k x0.2.1).bind fun t3 =>
            bif (decide (((ByteArray.size (⟨#[100, 114, 111, 112, 32]⟩ : ByteArray)) + (ByteArray.size t3.1.1)) ≤ (1099511627776 : Nat))) then
              bif (decide (((ByteArray.size ((⟨#[100, 114, 111, 112, 32]⟩ : ByteArray) ++ t3.1.1)) + (ByteArray.size (⟨#[32]⟩ : ByteArray))) ≤ (1099511627776 : Nat))) then
                (spec_NumText k x0.2.2.1).bind fun t4 =>
                  bif (decide (((ByteArray.size (((⟨#[100, 114, 111, 112, 32]⟩ : ByteArray) ++ t3.1.1) ++ (⟨#[32]⟩ : ByteArray))) + (ByteArray.size t4.1.1)) ≤ (1099511627776 : Nat))) then
                    some ((((((⟨#[100, 114, 111, 112, 32]⟩ : ByteArray) ++ t3.1.1) ++ (⟨#[32]⟩ : ByteArray)) ++ t4.1.1), ()), ())
                  else none
              else none
            else none
        else
          bif (decide (x0.1 = (3 : Int))) then
            (spec_NumText k x0.2.2.1).bind fun t5 =>
              bif (decide (((ByteArray.size (⟨#[114, 101, 112, 108, 121, 32]⟩ : ByteArray)) + (ByteArray.size t5.1.1)) ≤ (1099511627776 : Nat))) then
                some ((((⟨#[114, 101, 112, 108, 121, 32]⟩ : ByteArray) ++ t5.1.1), ()), ())
              else none
          else
            bif (decide (x0.1 = (4 : Int))) then
              (iter (spec_OutText_s13 k) k ((), x0, (⟨#[116, 111, 108, 100]⟩ : ByteArray), (0 : Int), ())).bind fun o6 =>
                some (o6.2, ())
            else
              some (((⟨#[]⟩ : ByteArray), ()), ())
  else
    some (((⟨#[]⟩ : ByteArray), ()), ())
def impl_NumText (x0 : Int) : Option ((ByteArray × Unit) × Unit) :=
  (itoaC x0).bind fun t1 =>
    some (t1.1, ())
def impl_HexText_s5 (rec : (Unit × ((List Int) × ((List Int) × (Int × (Int × Unit))))) → Option ((Unit × ((List Int) × Unit)))) (v : (Unit × ((List Int) × ((List Int) × (Int × (Int × Unit)))))) : Option ((Unit × ((List Int) × Unit))) :=
  bif (decide (v.2.2.2.2.1 < v.2.2.2.1)) then
    bif ((decide ((0 : Int) ≤ v.2.2.2.2.1)) && (decide (v.2.2.2.2.1 < (((List.length v.2.2.1) : Nat) : Int)))) then
      bif (decide ((Int.toNat v.2.2.2.2.1) < (List.length v.2.2.1))) then
        bif ((decide ((0 : Int) ≤ (Int.fdiv (List.getD v.2.2.1 (Int.toNat v.2.2.2.2.1) (0 : Int)) (2 ^ min (Int.toNat (4 : Int)) (IntKind.bits .u8))))) && (decide ((Int.fdiv (List.getD v.2.2.1 (Int.toNat v.2.2.2.2.1) (0 : Int)) (2 ^ min (Int.toNat (4 : Int)) (IntKind.bits .u8))) < (((ByteArray.size (⟨#[48, 49, 50, 51, 52, 53, 54, 55, 56, 57, 97, 98, 99, 100, 101, 102]⟩ : ByteArray)) : Nat) : Int)))) then
          bif ((decide ((0 : Int) ≤ (IntKind.wrap .u8 (BitVec.ofInt (IntKind.bits .u8) (List.getD v.2.2.1 (Int.toNat v.2.2.2.2.1) (0 : Int)) &&& BitVec.ofInt (IntKind.bits .u8) (15 : Int)).toNat))) && (decide ((IntKind.wrap .u8 (BitVec.ofInt (IntKind.bits .u8) (List.getD v.2.2.1 (Int.toNat v.2.2.2.2.1) (0 : Int)) &&& BitVec.ofInt (IntKind.bits .u8) (15 : Int)).toNat) < (((ByteArray.size (⟨#[48, 49, 50, 51, 52, 53, 54, 55, 56, 57, 97, 98, 99, 100, 101, 102]⟩ : ByteArray)) : Nat) : Int)))) then
            bif (decide ((((List.length v.2.1) + (2 : Nat)) * 1) ≤ (1099511627776 : Nat))) then
              rec ((), (v.2.1 ++ ([((((⟨#[48, 49, 50, 51, 52, 53, 54, 55, 56, 57, 97, 98, 99, 100, 101, 102]⟩ : ByteArray).data.toList.getD (Int.toNat (Int.fdiv (List.getD v.2.2.1 (Int.toNat v.2.2.2.2.1) (0 : Int)) (2 ^ min (Int.toNat (4 : Int)) (IntKind.bits .u8)))) 0).toNat : Nat) : Int), ((((⟨#[48, 49, 50, 51, 52, 53, 54, 55, 56, 57, 97, 98, 99, 100, 101, 102]⟩ : ByteArray).data.toList.getD (Int.toNat (IntKind.wrap .u8 (BitVec.ofInt (IntKind.bits .u8) (List.getD v.2.2.1 (Int.toNat v.2.2.2.2.1) (0 : Int)) &&& BitVec.ofInt (IntKind.bits .u8) (15 : Int)).toNat)) 0).toNat : Nat) : Int)] : List Int)), v.2.2.1, v.2.2.2.1, (IntKind.wrap .i64 (v.2.2.2.2.1 + (1 : Int))), ())
            else none
          else none
        else none
      else none
    else none
  else
    some ((), v.2.1, ())
def impl_HexText (k : Nat) (x0 : (List Int)) : Option ((ByteArray × Unit) × Unit) :=
  bif (decide ((4000 : Int) < (((List.length x0) : Nat) : Int))) then
    some (((⟨#[]⟩ : ByteArray), ()), ())
  else
    (iter (impl_HexText_s5) k ((), ([] : List Int), x0, (((List.length x0) : Nat) : Int), (0 : Int), ())).bind fun o1 =>
      some (((strOf o1.2.1), ()), ())
def impl_OutText_s13 (rec : (Unit × (ByteArray × ((List Int) × (Int × (Int × Unit))))) → Option ((Unit × (ByteArray × Unit)))) (v : (Unit × (ByteArray × ((List Int) × (Int × (Int × Unit)))))) : Option ((Unit × (ByteArray × Unit))) :=
  bif (decide (v.2.2.2.2.1 < v.2.2.2.1)) then
    bif ((decide ((0 : Int) ≤ v.2.2.2.2.1)) && (decide (v.2.2.2.2.1 < (((List.length v.2.2.1) : Nat) : Int)))) then
      bif (decide ((Int.toNat v.2.2.2.2.1) < (List.length v.2.2.1))) then
        (impl_NumText (List.getD v.2.2.1 (Int.toNat v.2.2.2.2.1) (0 : Int))).bind fun t6 =>
          bif (decide (((ByteArray.size (⟨#[32]⟩ : ByteArray)) + (ByteArray.size t6.1.1)) ≤ (1099511627776 : Nat))) then
            bif (decide (((ByteArray.size v.2.1) + (ByteArray.size ((⟨#[32]⟩ : ByteArray) ++ t6.1.1))) ≤ (1099511627776 : Nat))) then
              rec ((), (v.2.1 ++ ((⟨#[32]⟩ : ByteArray) ++ t6.1.1)), v.2.2.1, v.2.2.2.1, (IntKind.wrap .i64 (v.2.2.2.2.1 + (1 : Int))), ())
            else none
          else none
      else none
    else none
  else
    some ((), v.2.1, ())
def impl_OutText (k : Nat) (x0 : D_Out) : Option ((ByteArray × Unit) × Unit) :=
  bif (!(decide ((100 : Int) < (((List.length x0.2.2.2.2.1) : Nat) : Int)))) then
    bif (decide ((4000 : Int) < (((List.length x0.2.2.2.1) : Nat) : Int))) then
      some (((⟨#[]⟩ : ByteArray), ()), ())
    else
      bif (decide (x0.1 = (1 : Int))) then
        (impl_NumText x0.2.1).bind fun t1 =>
          bif (decide (((ByteArray.size (⟨#[115, 101, 110, 116, 32]⟩ : ByteArray)) + (ByteArray.size t1.1.1)) ≤ (1099511627776 : Nat))) then
            bif (decide (((ByteArray.size ((⟨#[115, 101, 110, 116, 32]⟩ : ByteArray) ++ t1.1.1)) + (ByteArray.size (⟨#[32]⟩ : ByteArray))) ≤ (1099511627776 : Nat))) then
              (impl_HexText k x0.2.2.2.1).bind fun t2 =>
                bif (decide (((ByteArray.size (((⟨#[115, 101, 110, 116, 32]⟩ : ByteArray) ++ t1.1.1) ++ (⟨#[32]⟩ : ByteArray))) + (ByteArray.size t2.1.1)) ≤ (1099511627776 : Nat))) then
                  some ((((((⟨#[115, 101, 110, 116, 32]⟩ : ByteArray) ++ t1.1.1) ++ (⟨#[32]⟩ : ByteArray)) ++ t2.1.1), ()), ())
                else none
            else none
          else none
      else
        bif (decide (x0.1 = (2 : Int))) then
          (impl_NumText x0.2.1).bind fun t3 =>
            bif (decide (((ByteArray.size (⟨#[100, 114, 111, 112, 32]⟩ : ByteArray)) + (ByteArray.size t3.1.1)) ≤ (1099511627776 : Nat))) then
              bif (decide (((ByteArray.size ((⟨#[100, 114, 111, 112, 32]⟩ : ByteArray) ++ t3.1.1)) + (ByteArray.size (⟨#[32]⟩ : ByteArray))) ≤ (1099511627776 : Nat))) then
                (impl_NumText x0.2.2.1).bind fun t4 =>
                  bif (decide (((ByteArray.size (((⟨#[100, 114, 111, 112, 32]⟩ : ByteArray) ++ t3.1.1) ++ (⟨#[32]⟩ : ByteArray))) + (ByteArray.size t4.1.1)) ≤ (1099511627776 : Nat))) then
                    some ((((((⟨#[100, 114, 111, 112, 32]⟩ : ByteArray) ++ t3.1.1) ++ (⟨#[32]⟩ : ByteArray)) ++ t4.1.1), ()), ())
                  else none
              else none
            else none
        else
          bif (decide (x0.1 = (3 : Int))) then
            (impl_NumText x0.2.2.1).bind fun t5 =>
              bif (decide (((ByteArray.size (⟨#[114, 101, 112, 108, 121, 32]⟩ : ByteArray)) + (ByteArray.size t5.1.1)) ≤ (1099511627776 : Nat))) then
                some ((((⟨#[114, 101, 112, 108, 121, 32]⟩ : ByteArray) ++ t5.1.1), ()), ())
              else none
          else
            bif (decide (x0.1 = (4 : Int))) then
              (iter (impl_OutText_s13) k ((), (⟨#[116, 111, 108, 100]⟩ : ByteArray), x0.2.2.2.2.1, (((List.length x0.2.2.2.2.1) : Nat) : Int), (0 : Int), ())).bind fun o6 =>
                some (o6.2, ())
            else
              some (((⟨#[]⟩ : ByteArray), ()), ())
  else
    some (((⟨#[]⟩ : ByteArray), ()), ())
def laws_eqByteS_s4 (rec : (Unit × ((List Int) × ((List Int) × (Int × Unit)))) → Option ((Unit × (Bool × Unit)) ⊕ (Unit × Unit))) (v : (Unit × ((List Int) × ((List Int) × (Int × Unit))))) : Option ((Unit × (Bool × Unit)) ⊕ (Unit × Unit)) :=
  bif (decide (v.2.2.2.1 < (((List.length v.2.1) : Nat) : Int))) then
    bif ((decide ((0 : Int) ≤ v.2.2.2.1)) && (decide (v.2.2.2.1 < (((List.length v.2.1) : Nat) : Int)))) then
      bif (decide ((Int.toNat v.2.2.2.1) < (List.length v.2.1))) then
        bif ((decide ((0 : Int) ≤ v.2.2.2.1)) && (decide (v.2.2.2.1 < (((List.length v.2.2.1) : Nat) : Int)))) then
          bif (decide ((Int.toNat v.2.2.2.1) < (List.length v.2.2.1))) then
            bif (!(decide ((List.getD v.2.1 (Int.toNat v.2.2.2.1) (0 : Int)) = (List.getD v.2.2.1 (Int.toNat v.2.2.2.1) (0 : Int))))) then
              some (Sum.inl ((), false, ()))
            else
              rec ((), v.2.1, v.2.2.1, (IntKind.wrap .i64 (v.2.2.2.1 + (1 : Int))), ())
          else none
        else none
      else none
    else none
  else
    some (Sum.inr ((), ()))
def laws_eqByteS (k : Nat) (x0 : (List Int)) (x1 : (List Int)) : Option ((Bool × Unit) × Unit) :=
  bif (!(decide ((((List.length x0) : Nat) : Int) = (((List.length x1) : Nat) : Int)))) then
    some ((false, ()), ())
  else
    (iter (laws_eqByteS_s4) k ((), x0, x1, (0 : Int), ())).bind fun o1 =>
      Sum.elim (fun a2 =>
        some (a2.2, ()))
      (fun b3 =>
        some ((true, ()), ())) o1
def laws_eqIntS_s4 (rec : (Unit × ((List Int) × ((List Int) × (Int × Unit)))) → Option ((Unit × (Bool × Unit)) ⊕ (Unit × Unit))) (v : (Unit × ((List Int) × ((List Int) × (Int × Unit))))) : Option ((Unit × (Bool × Unit)) ⊕ (Unit × Unit)) :=
  bif (decide (v.2.2.2.1 < (((List.length v.2.1) : Nat) : Int))) then
    bif ((decide ((0 : Int) ≤ v.2.2.2.1)) && (decide (v.2.2.2.1 < (((List.length v.2.1) : Nat) : Int)))) then
      bif (decide ((Int.toNat v.2.2.2.1) < (List.length v.2.1))) then
        bif ((decide ((0 : Int) ≤ v.2.2.2.1)) && (decide (v.2.2.2.1 < (((List.length v.2.2.1) : Nat) : Int)))) then
          bif (decide ((Int.toNat v.2.2.2.1) < (List.length v.2.2.1))) then
            bif (!(decide ((List.getD v.2.1 (Int.toNat v.2.2.2.1) (0 : Int)) = (List.getD v.2.2.1 (Int.toNat v.2.2.2.1) (0 : Int))))) then
              some (Sum.inl ((), false, ()))
            else
              rec ((), v.2.1, v.2.2.1, (IntKind.wrap .i64 (v.2.2.2.1 + (1 : Int))), ())
          else none
        else none
      else none
    else none
  else
    some (Sum.inr ((), ()))
def laws_eqIntS (k : Nat) (x0 : (List Int)) (x1 : (List Int)) : Option ((Bool × Unit) × Unit) :=
  bif (!(decide ((((List.length x0) : Nat) : Int) = (((List.length x1) : Nat) : Int)))) then
    some ((false, ()), ())
  else
    (iter (laws_eqIntS_s4) k ((), x0, x1, (0 : Int), ())).bind fun o1 =>
      Sum.elim (fun a2 =>
        some (a2.2, ()))
      (fun b3 =>
        some ((true, ()), ())) o1
def laws_eqOut (k : Nat) (x0 : D_Out) (x1 : D_Out) : Option ((Bool × Unit) × Unit) :=
  bif (!(decide (x0.1 = x1.1))) then
    some ((false, ()), ())
  else
    bif (!(decide (x0.2.1 = x1.2.1))) then
      some ((false, ()), ())
    else
      bif (!(decide (x0.2.2.1 = x1.2.2.1))) then
        some ((false, ()), ())
      else
        (laws_eqByteS k x0.2.2.2.1 x1.2.2.2.1).bind fun t1 =>
          bif (!t1.1.1) then
            some ((false, ()), ())
          else
            (laws_eqIntS k x0.2.2.2.2.1 x1.2.2.2.2.1).bind fun t2 =>
              bif (!t2.1.1) then
                some ((false, ()), ())
              else
                some ((true, ()), ())
def laws_FnExactOutText (k : Nat) (x0 : D_Out) : Option ((Bool × Unit) × Unit) :=
  (laws_szOut x0 (1048576 : Int)).bind fun t1 =>
    bif (decide (t1.1.1 < (0 : Int))) then
      some ((true, ()), ())
    else
      (laws_toOut k x0).bind fun t2 =>
        (spec_OutText k t2.1.1).bind fun t3 =>
          (laws_toOut k x0).bind fun t4 =>
            (impl_OutText k t4.1.1).bind fun t5 =>
              bif (!(decide (t5.1.1.data.toList = t3.1.1.data.toList))) then
                some ((false, ()), ())
              else
                (laws_toOut k x0).bind fun t6 =>
                  (laws_eqOut k t4.1.1 t6.1.1).bind fun t7 =>
                    bif (!t7.1.1) then
                      some ((false, ()), ())
                    else
                      some ((true, ()), ())
def laws_szLeft (x0 : D_Left) (x1 : Int) : Option ((Int × Unit) × Unit) :=
  (laws_szIntS x0.2.1 x1).bind fun t1 =>
    bif (decide (t1.1.1 < (0 : Int))) then
      some (((-1 : Int), ()), ())
    else
      (laws_szIntS x0.2.2.1 t1.1.1).bind fun t2 =>
        bif (decide (t2.1.1 < (0 : Int))) then
          some (((-1 : Int), ()), ())
        else
          some (t2.1, ())
def laws_toLeft (k : Nat) (x0 : D_Left) : Option ((D_Left × Unit) × Unit) :=
  (laws_toIntS k x0.2.1).bind fun t1 =>
    (laws_toIntS k x0.2.2.1).bind fun t2 =>
      some (((x0.1, t1.1.1, t2.1.1, x0.2.2.2), ()), ())
def spec_l25List_s5 (k : Nat) (rec : (Unit × ((List Int) × (ByteArray × (Int × Unit)))) → Option ((Unit × (ByteArray × Unit)))) (v : (Unit × ((List Int) × (ByteArray × (Int × Unit))))) : Option ((Unit × (ByteArray × Unit))) :=
  bif (decide (v.2.2.2.1 < (((List.length v.2.1) : Nat) : Int))) then
    bif (decide (((ByteArray.size v.2.2.1) + (ByteArray.size (⟨#[44]⟩ : ByteArray))) ≤ (1099511627776 : Nat))) then
      bif ((decide ((0 : Int) ≤ v.2.2.2.1)) && (decide (v.2.2.2.1 < (((List.length v.2.1) : Nat) : Int)))) then
        bif (decide ((Int.toNat v.2.2.2.1) < (List.length v.2.1))) then
          (spec_NumText k (List.getD v.2.1 (Int.toNat v.2.2.2.1) (0 : Int))).bind fun t2 =>
            bif (decide (((ByteArray.size (v.2.2.1 ++ (⟨#[44]⟩ : ByteArray))) + (ByteArray.size t2.1.1)) ≤ (1099511627776 : Nat))) then
              rec ((), v.2.1, ((v.2.2.1 ++ (⟨#[44]⟩ : ByteArray)) ++ t2.1.1), (IntKind.wrap .i64 (v.2.2.2.1 + (1 : Int))), ())
            else none
        else none
      else none
    else none
  else
    some ((), v.2.2.1, ())
def spec_l25List (k : Nat) (x0 : (List Int)) : Option ((ByteArray × Unit) × Unit) :=
  bif (decide ((((List.length x0) : Nat) : Int) = (0 : Int))) then
    some (((⟨#[45]⟩ : ByteArray), ()), ())
  else
    bif (decide ((0 : Int) < (((List.length x0) : Nat) : Int))) then
      bif (decide ((0 : Nat) < (List.length x0))) then
        (spec_NumText k (List.getD x0 (0 : Nat) (0 : Int))).bind fun t1 =>
          (iter (spec_l25List_s5 k) k ((), x0, t1.1.1, (1 : Int), ())).bind fun o2 =>
            some (o2.2, ())
      else none
    else none
def spec_LeftText (k : Nat) (x0 : D_Left) : Option ((ByteArray × Unit) × Unit) :=
  bif (!(decide ((200 : Int) < (((List.length x0.2.1) : Nat) : Int)))) then
    bif (decide ((200 : Int) < (((List.length x0.2.2.1) : Nat) : Int))) then
      some (((⟨#[]⟩ : ByteArray), ()), ())
    else
      (spec_NumText k x0.1).bind fun t1 =>
        bif (decide (((ByteArray.size (⟨#[108, 101, 102, 116, 32]⟩ : ByteArray)) + (ByteArray.size t1.1.1)) ≤ (1099511627776 : Nat))) then
          bif (decide (((ByteArray.size ((⟨#[108, 101, 102, 116, 32]⟩ : ByteArray) ++ t1.1.1)) + (ByteArray.size (⟨#[32, 113, 117, 101, 117, 101, 100, 32]⟩ : ByteArray))) ≤ (1099511627776 : Nat))) then
            (spec_l25List k x0.2.1).bind fun t2 =>
              bif (decide (((ByteArray.size (((⟨#[108, 101, 102, 116, 32]⟩ : ByteArray) ++ t1.1.1) ++ (⟨#[32, 113, 117, 101, 117, 101, 100, 32]⟩ : ByteArray))) + (ByteArray.size t2.1.1)) ≤ (1099511627776 : Nat))) then
                bif (decide (((ByteArray.size ((((⟨#[108, 101, 102, 116, 32]⟩ : ByteArray) ++ t1.1.1) ++ (⟨#[32, 113, 117, 101, 117, 101, 100, 32]⟩ : ByteArray)) ++ t2.1.1)) + (ByteArray.size (⟨#[32, 97, 119, 97, 121, 32]⟩ : ByteArray))) ≤ (1099511627776 : Nat))) then
                  (spec_l25List k x0.2.2.1).bind fun t3 =>
                    bif (decide (((ByteArray.size (((((⟨#[108, 101, 102, 116, 32]⟩ : ByteArray) ++ t1.1.1) ++ (⟨#[32, 113, 117, 101, 117, 101, 100, 32]⟩ : ByteArray)) ++ t2.1.1) ++ (⟨#[32, 97, 119, 97, 121, 32]⟩ : ByteArray))) + (ByteArray.size t3.1.1)) ≤ (1099511627776 : Nat))) then
                      bif (decide (((ByteArray.size ((((((⟨#[108, 101, 102, 116, 32]⟩ : ByteArray) ++ t1.1.1) ++ (⟨#[32, 113, 117, 101, 117, 101, 100, 32]⟩ : ByteArray)) ++ t2.1.1) ++ (⟨#[32, 97, 119, 97, 121, 32]⟩ : ByteArray)) ++ t3.1.1)) + (ByteArray.size (⟨#[32, 115, 116, 114, 101, 97, 109, 115, 32]⟩ : ByteArray))) ≤ (1099511627776 : Nat))) then
                        (spec_NumText k x0.2.2.2.1).bind fun t4 =>
                          bif (decide (((ByteArray.size (((((((⟨#[108, 101, 102, 116, 32]⟩ : ByteArray) ++ t1.1.1) ++ (⟨#[32, 113, 117, 101, 117, 101, 100, 32]⟩ : ByteArray)) ++ t2.1.1) ++ (⟨#[32, 97, 119, 97, 121, 32]⟩ : ByteArray)) ++ t3.1.1) ++ (⟨#[32, 115, 116, 114, 101, 97, 109, 115, 32]⟩ : ByteArray))) + (ByteArray.size t4.1.1)) ≤ (1099511627776 : Nat))) then
                            bif (decide (((ByteArray.size ((((((((⟨#[108, 101, 102, 116, 32]⟩ : ByteArray) ++ t1.1.1) ++ (⟨#[32, 113, 117, 101, 117, 101, 100, 32]⟩ : ByteArray)) ++ t2.1.1) ++ (⟨#[32, 97, 119, 97, 121, 32]⟩ : ByteArray)) ++ t3.1.1) ++ (⟨#[32, 115, 116, 114, 101, 97, 109, 115, 32]⟩ : ByteArray)) ++ t4.1.1)) + (ByteArray.size (⟨#[32, 116, 111, 112, 32]⟩ : ByteArray))) ≤ (1099511627776 : Nat))) then
                              (spec_NumText k x0.2.2.2.2.1).bind fun t5 =>
                                bif (decide (((ByteArray.size (((((((((⟨#[108, 101, 102, 116, 32]⟩ : ByteArray) ++ t1.1.1) ++ (⟨#[32, 113, 117, 101, 117, 101, 100, 32]⟩ : ByteArray)) ++ t2.1.1) ++ (⟨#[32, 97, 119, 97, 121, 32]⟩ : ByteArray)) ++ t3.1.1) ++ (⟨#[32, 115, 116, 114, 101, 97, 109, 115, 32]⟩ : ByteArray)) ++ t4.1.1) ++ (⟨#[32, 116, 111, 112, 32]⟩ : ByteArray))) + (ByteArray.size t5.1.1)) ≤ (1099511627776 : Nat))) then
                                  some ((((((((((((⟨#[108, 101, 102, 116, 32]⟩ : ByteArray) ++ t1.1.1) ++ (⟨#[32, 113, 117, 101, 117, 101, 100, 32]⟩ : ByteArray)) ++ t2.1.1) ++ (⟨#[32, 97, 119, 97, 121, 32]⟩ : ByteArray)) ++ t3.1.1) ++ (⟨#[32, 115, 116, 114, 101, 97, 109, 115, 32]⟩ : ByteArray)) ++ t4.1.1) ++ (⟨#[32, 116, 111, 112, 32]⟩ : ByteArray)) ++ t5.1.1), ()), ())
                                else none
                            else none
                          else none
                      else none
                    else none
                else none
              else none
          else none
        else none
  else
    some (((⟨#[]⟩ : ByteArray), ()), ())
def impl_listText_s3 (rec : (Unit × ((List ByteArray) × ((List Int) × (Int × (Int × Unit))))) → Option ((Unit × ((List ByteArray) × Unit)))) (v : (Unit × ((List ByteArray) × ((List Int) × (Int × (Int × Unit)))))) : Option ((Unit × ((List ByteArray) × Unit))) :=
  bif (decide (v.2.2.2.2.1 < v.2.2.2.1)) then
    bif ((decide ((0 : Int) ≤ v.2.2.2.2.1)) && (decide (v.2.2.2.2.1 < (((List.length v.2.2.1) : Nat) : Int)))) then
      bif (decide ((Int.toNat v.2.2.2.2.1) < (List.length v.2.2.1))) then
        (impl_NumText (List.getD v.2.2.1 (Int.toNat v.2.2.2.2.1) (0 : Int))).bind fun t1 =>
          bif (decide ((((List.length v.2.1) + (1 : Nat)) * 16) ≤ (1099511627776 : Nat))) then
            rec ((), (v.2.1 ++ ([t1.1.1] : List ByteArray)), v.2.2.1, v.2.2.2.1, (IntKind.wrap .i64 (v.2.2.2.2.1 + (1 : Int))), ())
          else none
      else none
    else none
  else
    some ((), v.2.1, ())
def impl_listText (k : Nat) (x0 : (List Int)) : Option ((ByteArray × Unit) × Unit) :=
  (iter (impl_listText_s3) k ((), ([] : List ByteArray), x0, (((List.length x0) : Nat) : Int), (0 : Int), ())).bind fun o1 =>
    bif (decide ((((List.length o1.2.1) : Nat) : Int) = (0 : Int))) then
      some (((⟨#[45]⟩ : ByteArray), ()), ())
    else
      (joinC o1.2.1 (⟨#[44]⟩ : ByteArray)).bind fun t2 =>
        some (t2.1, ())
def impl_LeftText (k : Nat) (x0 : D_Left) : Option ((ByteArray × Unit) × Unit) :=
  bif (!(decide ((200 : Int) < (((List.length x0.2.1) : Nat) : Int)))) then
    bif (decide ((200 : Int) < (((List.length x0.2.2.1) : Nat) : Int))) then
      some (((⟨#[]⟩ : ByteArray), ()), ())
    else
      (impl_NumText x0.1).bind fun t1 =>
        (impl_listText k x0.2.1).bind fun t2 =>
          (impl_listText k x0.2.2.1).bind fun t3 =>
            (impl_NumText x0.2.2.2.1).bind fun t4 =>
              (impl_NumText x0.2.2.2.2.1).bind fun t5 =>
                (joinC ([(⟨#[108, 101, 102, 116]⟩ : ByteArray), t1.1.1, (⟨#[113, 117, 101, 117, 101, 100]⟩ : ByteArray), t2.1.1, (⟨#[97, 119, 97, 121]⟩ : ByteArray), t3.1.1, (⟨#[115, 116, 114, 101, 97, 109, 115]⟩ : ByteArray), t4.1.1, (⟨#[116, 111, 112]⟩ : ByteArray), t5.1.1] : List ByteArray) (⟨#[32]⟩ : ByteArray)).bind fun t6 =>
                  some (t6.1, ())
  else
    some (((⟨#[]⟩ : ByteArray), ()), ())
def laws_eqLeft (k : Nat) (x0 : D_Left) (x1 : D_Left) : Option ((Bool × Unit) × Unit) :=
  bif (!(decide (x0.1 = x1.1))) then
    some ((false, ()), ())
  else
    (laws_eqIntS k x0.2.1 x1.2.1).bind fun t1 =>
      bif (!t1.1.1) then
        some ((false, ()), ())
      else
        (laws_eqIntS k x0.2.2.1 x1.2.2.1).bind fun t2 =>
          bif (!t2.1.1) then
            some ((false, ()), ())
          else
            bif (!(decide (x0.2.2.2.1 = x1.2.2.2.1))) then
              some ((false, ()), ())
            else
              bif (!(decide (x0.2.2.2.2.1 = x1.2.2.2.2.1))) then
                some ((false, ()), ())
              else
                some ((true, ()), ())
def laws_FnExactLeftText (k : Nat) (x0 : D_Left) : Option ((Bool × Unit) × Unit) :=
  (laws_szLeft x0 (1048576 : Int)).bind fun t1 =>
    bif (decide (t1.1.1 < (0 : Int))) then
      some ((true, ()), ())
    else
      (laws_toLeft k x0).bind fun t2 =>
        (spec_LeftText k t2.1.1).bind fun t3 =>
          (laws_toLeft k x0).bind fun t4 =>
            (impl_LeftText k t4.1.1).bind fun t5 =>
              bif (!(decide (t5.1.1.data.toList = t3.1.1.data.toList))) then
                some ((false, ()), ())
              else
                (laws_toLeft k x0).bind fun t6 =>
                  (laws_eqLeft k t4.1.1 t6.1.1).bind fun t7 =>
                    bif (!t7.1.1) then
                      some ((false, ()), ())
                    else
                      some ((true, ()), ())
def laws_szEvent (x0 : D_Event) (x1 : Int) : Option ((Int × Unit) × Unit) :=
  (laws_szByteS x0.2.2.1 x1).bind fun t1 =>
    bif (decide (t1.1.1 < (0 : Int))) then
      some (((-1 : Int), ()), ())
    else
      some (t1.1, ())
def laws_toVec (x0 : D_Vec) : Option ((D_Vec × Unit) × Unit) :=
  some ((x0, ()), ())
def laws_toEvent (k : Nat) (x0 : D_Event) : Option ((D_Event × Unit) × Unit) :=
  (laws_toByteS k x0.2.2.1).bind fun t1 =>
    (laws_toVec x0.2.2.2.1).bind fun t2 =>
      some (((x0.1, x0.2.1, t1.1.1, t2.1), ()), ())
def spec_EventsOk_s5 (rec : (Unit × ((List D_Event) × (Int × (Int × Unit)))) → Option ((Unit × (Bool × Unit)) ⊕ (Unit × Unit))) (v : (Unit × ((List D_Event) × (Int × (Int × Unit))))) : Option ((Unit × (Bool × Unit)) ⊕ (Unit × Unit)) :=
  bif (decide (v.2.2.2.1 < (((List.length v.2.1) : Nat) : Int))) then
    bif ((decide ((0 : Int) ≤ v.2.2.2.1)) && (decide (v.2.2.2.1 < (((List.length v.2.1) : Nat) : Int)))) then
      bif (decide ((Int.toNat v.2.2.2.1) < (List.length v.2.1))) then
        bif (!(decide ((List.getD v.2.1 (Int.toNat v.2.2.2.1) z_Event).1 < (1 : Int)))) then
          bif (!(decide ((4 : Int) < (List.getD v.2.1 (Int.toNat v.2.2.2.1) z_Event).1))) then
            bif (decide ((2000 : Int) < (((List.length (List.getD v.2.1 (Int.toNat v.2.2.2.1) z_Event).2.2.1) : Nat) : Int))) then
              some (Sum.inl ((), false, ()))
            else
              bif (!(decide ((List.getD v.2.1 (Int.toNat v.2.2.2.1) z_Event).1 = (2 : Int)))) then
                bif (!(!(decide ((List.getD v.2.1 (Int.toNat v.2.2.2.1) z_Event).2.1 = (0 : Int))))) then
                  bif (decide ((List.getD v.2.1 (Int.toNat v.2.2.2.1) z_Event).1 = (2 : Int))) then
                    bif (!(decide ((List.getD v.2.1 (Int.toNat v.2.2.2.1) z_Event).2.1 < (1 : Int)))) then
                      bif (decide (v.2.2.1 < (List.getD v.2.1 (Int.toNat v.2.2.2.1) z_Event).2.1)) then
                        some (Sum.inl ((), false, ()))
                      else
                        bif (!(decide ((List.getD v.2.1 (Int.toNat v.2.2.2.1) z_Event).1 = (1 : Int)))) then
                          bif (!(!((decide ((List.getD v.2.1 (Int.toNat v.2.2.2.1) z_Event).2.2.2.1.1 = (0 : Int))) && ((decide ((List.getD v.2.1 (Int.toNat v.2.2.2.1) z_Event).2.2.2.1.2.1 = (0 : Int))) && ((decide ((List.getD v.2.1 (Int.toNat v.2.2.2.1) z_Event).2.2.2.1.2.2.1 = (0 : Int))) && true))))) then
                            bif (!(decide ((List.getD v.2.1 (Int.toNat v.2.2.2.1) z_Event).1 = (2 : Int)))) then
                              bif (decide ((List.getD v.2.1 (Int.toNat v.2.2.2.1) z_Event).1 = (4 : Int))) then
                                bif (decide ((0 : Int) < (((List.length (List.getD v.2.1 (Int.toNat v.2.2.2.1) z_Event).2.2.1) : Nat) : Int))) then
                                  some (Sum.inl ((), false, ()))
                                else
                                  rec ((), v.2.1, (IntKind.wrap .i64 (v.2.2.1 - (List.getD v.2.1 (Int.toNat v.2.2.2.1) z_Event).2.1)), (IntKind.wrap .i64 (v.2.2.2.1 + (1 : Int))), ())
                              else
                                rec ((), v.2.1, (IntKind.wrap .i64 (v.2.2.1 - (List.getD v.2.1 (Int.toNat v.2.2.2.1) z_Event).2.1)), (IntKind.wrap .i64 (v.2.2.2.1 + (1 : Int))), ())
                            else
                              bif (decide ((0 : Int) < (((List.length (List.getD v.2.1 (Int.toNat v.2.2.2.1) z_Event).2.2.1) : Nat) : Int))) then
                                some (Sum.inl ((), false, ()))
                              else
                                rec ((), v.2.1, (IntKind.wrap .i64 (v.2.2.1 - (List.getD v.2.1 (Int.toNat v.2.2.2.1) z_Event).2.1)), (IntKind.wrap .i64 (v.2.2.2.1 + (1 : Int))), ())
                          else
                            some (Sum.inl ((), false, ()))
                        else
                          bif (!(decide ((List.getD v.2.1 (Int.toNat v.2.2.2.1) z_Event).1 = (2 : Int)))) then
                            bif (decide ((List.getD v.2.1 (Int.toNat v.2.2.2.1) z_Event).1 = (4 : Int))) then
                              bif (decide ((0 : Int) < (((List.length (List.getD v.2.1 (Int.toNat v.2.2.2.1) z_Event).2.2.1) : Nat) : Int))) then
                                some (Sum.inl ((), false, ()))
                              else
                                rec ((), v.2.1, (IntKind.wrap .i64 (v.2.2.1 - (List.getD v.2.1 (Int.toNat v.2.2.2.1) z_Event).2.1)), (IntKind.wrap .i64 (v.2.2.2.1 + (1 : Int))), ())
                            else
                              rec ((), v.2.1, (IntKind.wrap .i64 (v.2.2.1 - (List.getD v.2.1 (Int.toNat v.2.2.2.1) z_Event).2.1)), (IntKind.wrap .i64 (v.2.2.2.1 + (1 : Int))), ())
                          else
                            bif (decide ((0 : Int) < (((List.length (List.getD v.2.1 (Int.toNat v.2.2.2.1) z_Event).2.2.1) : Nat) : Int))) then
                              some (Sum.inl ((), false, ()))
                            else
                              rec ((), v.2.1, (IntKind.wrap .i64 (v.2.2.1 - (List.getD v.2.1 (Int.toNat v.2.2.2.1) z_Event).2.1)), (IntKind.wrap .i64 (v.2.2.2.1 + (1 : Int))), ())
                    else
                      some (Sum.inl ((), false, ()))
                  else
                    bif (!(decide ((List.getD v.2.1 (Int.toNat v.2.2.2.1) z_Event).1 = (1 : Int)))) then
                      bif (!(!((decide ((List.getD v.2.1 (Int.toNat v.2.2.2.1) z_Event).2.2.2.1.1 = (0 : Int))) && ((decide ((List.getD v.2.1 (Int.toNat v.2.2.2.1) z_Event).2.2.2.1.2.1 = (0 : Int))) && ((decide ((List.getD v.2.1 (Int.toNat v.2.2.2.1) z_Event).2.2.2.1.2.2.1 = (0 : Int))) && true))))) then
                        bif (!(decide ((List.getD v.2.1 (Int.toNat v.2.2.2.1) z_Event).1 = (2 : Int)))) then
                          bif (decide ((List.getD v.2.1 (Int.toNat v.2.2.2.1) z_Event).1 = (4 : Int))) then
                            bif (decide ((0 : Int) < (((List.length (List.getD v.2.1 (Int.toNat v.2.2.2.1) z_Event).2.2.1) : Nat) : Int))) then
                              some (Sum.inl ((), false, ()))
                            else
                              rec ((), v.2.1, (IntKind.wrap .i64 (v.2.2.1 - (List.getD v.2.1 (Int.toNat v.2.2.2.1) z_Event).2.1)), (IntKind.wrap .i64 (v.2.2.2.1 + (1 : Int))), ())
                          else
                            rec ((), v.2.1, (IntKind.wrap .i64 (v.2.2.1 - (List.getD v.2.1 (Int.toNat v.2.2.2.1) z_Event).2.1)), (IntKind.wrap .i64 (v.2.2.2.1 + (1 : Int))), ())
                        else
                          bif (decide ((0 : Int) < (((List.length (List.getD v.2.1 (Int.toNat v.2.2.2.1) z_Event).2.2.1) : Nat) : Int))) then
                            some (Sum.inl ((), false, ()))
                          else
                            rec ((), v.2.1, (IntKind.wrap .i64 (v.2.2.1 - (List.getD v.2.1 (Int.toNat v.2.2.2.1) z_Event).2.1)), (IntKind.wrap .i64 (v.2.2.2.1 + (1 : Int))), ())
                      else
                        some (Sum.inl ((), false, ()))
                    else
                      bif (!(decide ((List.getD v.2.1 (Int.toNat v.2.2.2.1) z_Event).1 = (2 : Int)))) then
                        bif (decide ((List.getD v.2.1 (Int.toNat v.2.2.2.1) z_Event).1 = (4 : Int))) then
                          bif (decide ((0 : Int) < (((List.length (List.getD v.2.1 (Int.toNat v.2.2.2.1) z_Event).2.2.1) : Nat) : Int))) then
                            some (Sum.inl ((), false, ()))
                          else
                            rec ((), v.2.1, (IntKind.wrap .i64 (v.2.2.1 - (List.getD v.2.1 (Int.toNat v.2.2.2.1) z_Event).2.1)), (IntKind.wrap .i64 (v.2.2.2.1 + (1 : Int))), ())
                        else
                          rec ((), v.2.1, (IntKind.wrap .i64 (v.2.2.1 - (List.getD v.2.1 (Int.toNat v.2.2.2.1) z_Event).2.1)), (IntKind.wrap .i64 (v.2.2.2.1 + (1 : Int))), ())
                      else
                        bif (decide ((0 : Int) < (((List.length (List.getD v.2.1 (Int.toNat v.2.2.2.1) z_Event).2.2.1) : Nat) : Int))) then
                          some (Sum.inl ((), false, ()))
                        else
                          rec ((), v.2.1, (IntKind.wrap .i64 (v.2.2.1 - (List.getD v.2.1 (Int.toNat v.2.2.2.1) z_Event).2.1)), (IntKind.wrap .i64 (v.2.2.2.1 + (1 : Int))), ())
                else
                  some (Sum.inl ((), false, ()))
              else
                bif (decide ((List.getD v.2.1 (Int.toNat v.2.2.2.1) z_Event).1 = (2 : Int))) then
                  bif (!(decide ((List.getD v.2.1 (Int.toNat v.2.2.2.1) z_Event).2.1 < (1 : Int)))) then
                    bif (decide (v.2.2.1 < (List.getD v.2.1 (Int.toNat v.2.2.2.1) z_Event).2.1)) then
                      some (Sum.inl ((), false, ()))
                    else
                      bif (!(decide ((List.getD v.2.1 (Int.toNat v.2.2.2.1) z_Event).1 = (1 : Int)))) then
                        bif (!(!((decide ((List.getD v.2.1 (Int.toNat v.2.2.2.1) z_Event).2.2.2.1.1 = (0 : Int))) && ((decide ((List.getD v.2.1 (Int.toNat v.2.2.2.1) z_Event).2.2.2.1.2.1 = (0 : Int))) && ((decide ((List.getD v.2.1 (Int.toNat v.2.2.2.1) z_Event).2.2.2.1.2.2.1 = (0 : Int))) && true))))) then
                          bif (!(decide ((List.getD v.2.1 (Int.toNat v.2.2.2.1) z_Event).1 = (2 : Int)))) then
                            bif (decide ((List.getD v.2.1 (Int.toNat v.2.2.2.1) z_Event).1 = (4 : Int))) then
                              bif (decide ((0 : Int) < (((List.length (List.getD v.2.1 (Int.toNat v.2.2.2.1) z_Event).2.2.1) : Nat) : Int))) then
                                some (Sum.inl ((), false, ()))
                              else
                                rec ((), v.2.1, (IntKind.wrap .i64 (v.2.2.1 - (List.getD v.2.1 (Int.toNat v.2.2.2.1) z_Event).2.1)), (IntKind.wrap .i64 (v.2.2.2.1 + (1 : Int))), ())
                            else
                              rec ((), v.2.1, (IntKind.wrap .i64 (v.2.2.1 - (List.getD v.2.1 (Int.toNat v.2.2.2.1) z_Event).2.1)), (IntKind.wrap .i64 (v.2.2.2.1 + (1 : Int))), ())
                          else
                            bif (decide ((0 : Int) < (((List.length (List.getD v.2.1 (Int.toNat v.2.2.2.1) z_Event).2.2.1) : Nat) : Int))) then
                              some (Sum.inl ((), false, ()))
                            else
                              rec ((), v.2.1, (IntKind.wrap .i64 (v.2.2.1 - (List.getD v.2.1 (Int.toNat v.2.2.2.1) z_Event).2.1)), (IntKind.wrap .i64 (v.2.2.2.1 + (1 : Int))), ())
                        else
                          some (Sum.inl ((), false, ()))
                      else
                        bif (!(decide ((List.getD v.2.1 (Int.toNat v.2.2.2.1) z_Event).1 = (2 : Int)))) then
                          bif (decide ((List.getD v.2.1 (Int.toNat v.2.2.2.1) z_Event).1 = (4 : Int))) then
                            bif (decide ((0 : Int) < (((List.length (List.getD v.2.1 (Int.toNat v.2.2.2.1) z_Event).2.2.1) : Nat) : Int))) then
                              some (Sum.inl ((), false, ()))
                            else
                              rec ((), v.2.1, (IntKind.wrap .i64 (v.2.2.1 - (List.getD v.2.1 (Int.toNat v.2.2.2.1) z_Event).2.1)), (IntKind.wrap .i64 (v.2.2.2.1 + (1 : Int))), ())
                          else
                            rec ((), v.2.1, (IntKind.wrap .i64 (v.2.2.1 - (List.getD v.2.1 (Int.toNat v.2.2.2.1) z_Event).2.1)), (IntKind.wrap .i64 (v.2.2.2.1 + (1 : Int))), ())
                        else
                          bif (decide ((0 : Int) < (((List.length (List.getD v.2.1 (Int.toNat v.2.2.2.1) z_Event).2.2.1) : Nat) : Int))) then
                            some (Sum.inl ((), false, ()))
                          else
                            rec ((), v.2.1, (IntKind.wrap .i64 (v.2.2.1 - (List.getD v.2.1 (Int.toNat v.2.2.2.1) z_Event).2.1)), (IntKind.wrap .i64 (v.2.2.2.1 + (1 : Int))), ())
                  else
                    some (Sum.inl ((), false, ()))
                else
                  bif (!(decide ((List.getD v.2.1 (Int.toNat v.2.2.2.1) z_Event).1 = (1 : Int)))) then
                    bif (!(!((decide ((List.getD v.2.1 (Int.toNat v.2.2.2.1) z_Event).2.2.2.1.1 = (0 : Int))) && ((decide ((List.getD v.2.1 (Int.toNat v.2.2.2.1) z_Event).2.2.2.1.2.1 = (0 : Int))) && ((decide ((List.getD v.2.1 (Int.toNat v.2.2.2.1) z_Event).2.2.2.1.2.2.1 = (0 : Int))) && true))))) then
                      bif (!(decide ((List.getD v.2.1 (Int.toNat v.2.2.2.1) z_Event).1 = (2 : Int)))) then
                        bif (decide ((List.getD v.2.1 (Int.toNat v.2.2.2.1) z_Event).1 = (4 : Int))) then
                          bif (decide ((0 : Int) < (((List.length (List.getD v.2.1 (Int.toNat v.2.2.2.1) z_Event).2.2.1) : Nat) : Int))) then
                            some (Sum.inl ((), false, ()))
                          else
                            rec ((), v.2.1, (IntKind.wrap .i64 (v.2.2.1 - (List.getD v.2.1 (Int.toNat v.2.2.2.1) z_Event).2.1)), (IntKind.wrap .i64 (v.2.2.2.1 + (1 : Int))), ())
                        else
                          rec ((), v.2.1, (IntKind.wrap .i64 (v.2.2.1 - (List.getD v.2.1 (Int.toNat v.2.2.2.1) z_Event).2.1)), (IntKind.wrap .i64 (v.2.2.2.1 + (1 : Int))), ())
                      else
                        bif (decide ((0 : Int) < (((List.length (List.getD v.2.1 (Int.toNat v.2.2.2.1) z_Event).2.2.1) : Nat) : Int))) then
                          some (Sum.inl ((), false, ()))
                        else
                          rec ((), v.2.1, (IntKind.wrap .i64 (v.2.2.1 - (List.getD v.2.1 (Int.toNat v.2.2.2.1) z_Event).2.1)), (IntKind.wrap .i64 (v.2.2.2.1 + (1 : Int))), ())
                    else
                      some (Sum.inl ((), false, ()))
                  else
                    bif (!(decide ((List.getD v.2.1 (Int.toNat v.2.2.2.1) z_Event).1 = (2 : Int)))) then
                      bif (decide ((List.getD v.2.1 (Int.toNat v.2.2.2.1) z_Event).1 = (4 : Int))) then
                        bif (decide ((0 : Int) < (((List.length (List.getD v.2.1 (Int.toNat v.2.2.2.1) z_Event).2.2.1) : Nat) : Int))) then
                          some (Sum.inl ((), false, ()))
                        else
                          rec ((), v.2.1, (IntKind.wrap .i64 (v.2.2.1 - (List.getD v.2.1 (Int.toNat v.2.2.2.1) z_Event).2.1)), (IntKind.wrap .i64 (v.2.2.2.1 + (1 : Int))), ())
                      else
                        rec ((), v.2.1, (IntKind.wrap .i64 (v.2.2.1 - (List.getD v.2.1 (Int.toNat v.2.2.2.1) z_Event).2.1)), (IntKind.wrap .i64 (v.2.2.2.1 + (1 : Int))), ())
                    else
                      bif (decide ((0 : Int) < (((List.length (List.getD v.2.1 (Int.toNat v.2.2.2.1) z_Event).2.2.1) : Nat) : Int))) then
                        some (Sum.inl ((), false, ()))
                      else
                        rec ((), v.2.1, (IntKind.wrap .i64 (v.2.2.1 - (List.getD v.2.1 (Int.toNat v.2.2.2.1) z_Event).2.1)), (IntKind.wrap .i64 (v.2.2.2.1 + (1 : Int))), ())
          else
            some (Sum.inl ((), false, ()))
        else
          some (Sum.inl ((), false, ()))
      else none
    else none
  else
    some (Sum.inr ((), ()))
def spec_EventsOk (k : Nat) (x0 : (List D_Event)) : Option ((Bool × Unit) × Unit) :=
  bif (decide ((200 : Int) < (((List.length x0) : Nat) : Int))) then
    some ((false, ()), ())
  else
    (iter (spec_EventsOk_s5) k ((), x0, (4000 : Int), (0 : Int), ())).bind fun o1 =>
      Sum.elim (fun a2 =>
        some (a2.2, ()))
      (fun b3 =>
        some ((true, ()), ())) o1
def spec_l13All (x0 : D_Vec) (x1 : Int) (x2 : Int) : Option ((Bool × Unit) × Unit) :=
  bif (decide (x1 ≤ x0.1)) then
    bif (decide (x0.1 ≤ x2)) then
      bif (decide (x1 ≤ x0.2.1)) then
        bif (decide (x0.2.1 ≤ x2)) then
          bif (decide (x1 ≤ x0.2.2.1)) then
            some (((decide (x0.2.2.1 ≤ x2)), ()), ())
          else
            some ((false, ()), ())
        else
          some ((false, ()), ())
      else
        some ((false, ()), ())
    else
      some ((false, ()), ())
  else
    some ((false, ()), ())
def spec_VecText (k : Nat) (x0 : D_Vec) : Option ((ByteArray × Unit) × Unit) :=
  (spec_NumText k x0.1).bind fun t1 =>
    bif (decide (((ByteArray.size t1.1.1) + (ByteArray.size (⟨#[47]⟩ : ByteArray))) ≤ (1099511627776 : Nat))) then
      (spec_NumText k x0.2.1).bind fun t2 =>
        bif (decide (((ByteArray.size (t1.1.1 ++ (⟨#[47]⟩ : ByteArray))) + (ByteArray.size t2.1.1)) ≤ (1099511627776 : Nat))) then
          bif (decide (((ByteArray.size ((t1.1.1 ++ (⟨#[47]⟩ : ByteArray)) ++ t2.1.1)) + (ByteArray.size (⟨#[47]⟩ : ByteArray))) ≤ (1099511627776 : Nat))) then
            (spec_NumText k x0.2.2.1).bind fun t3 =>
              bif (decide (((ByteArray.size (((t1.1.1 ++ (⟨#[47]⟩ : ByteArray)) ++ t2.1.1) ++ (⟨#[47]⟩ : ByteArray))) + (ByteArray.size t3.1.1)) ≤ (1099511627776 : Nat))) then
                some ((((((t1.1.1 ++ (⟨#[47]⟩ : ByteArray)) ++ t2.1.1) ++ (⟨#[47]⟩ : ByteArray)) ++ t3.1.1), ()), ())
              else none
          else none
        else none
    else none
def spec_EventText (k : Nat) (x0 : D_Event) : Option ((ByteArray × Unit) × Unit) :=
  (spec_EventsOk k ([x0] : List D_Event)).bind fun t1 =>
    bif (!(!t1.1.1)) then
      (spec_l13All x0.2.2.2.1 (0 : Int) (999999999999 : Int)).bind fun t2 =>
        bif (!t2.1.1) then
          some (((⟨#[]⟩ : ByteArray), ()), ())
        else
          bif (decide (x0.1 = (1 : Int))) then
            (spec_VecText k x0.2.2.2.1).bind fun t3 =>
              bif (decide (((ByteArray.size (⟨#[102, 114, 97, 109, 101, 32]⟩ : ByteArray)) + (ByteArray.size t3.1.1)) ≤ (1099511627776 : Nat))) then
                bif (decide (((ByteArray.size ((⟨#[102, 114, 97, 109, 101, 32]⟩ : ByteArray) ++ t3.1.1)) + (ByteArray.size (⟨#[32]⟩ : ByteArray))) ≤ (1099511627776 : Nat))) then
                  (spec_HexText k x0.2.2.1).bind fun t4 =>
                    bif (decide (((ByteArray.size (((⟨#[102, 114, 97, 109, 101, 32]⟩ : ByteArray) ++ t3.1.1) ++ (⟨#[32]⟩ : ByteArray))) + (ByteArray.size t4.1.1)) ≤ (1099511627776 : Nat))) then
                      some ((((((⟨#[102, 114, 97, 109, 101, 32]⟩ : ByteArray) ++ t3.1.1) ++ (⟨#[32]⟩ : ByteArray)) ++ t4.1.1), ()), ())
                    else none
                else none
              else none
          else
            bif (decide (x0.1 = (2 : Int))) then
              (spec_NumText k x0.2.1).bind fun t5 =>
                bif (decide (((ByteArray.size (⟨#[116, 105, 99, 107, 32]⟩ : ByteArray)) + (ByteArray.size t5.1.1)) ≤ (1099511627776 : Nat))) then
                  some ((((⟨#[116, 105, 99, 107, 32]⟩ : ByteArray) ++ t5.1.1), ()), ())
                else none
            else
              bif (decide (x0.1 = (3 : Int))) then
                (spec_HexText k x0.2.2.1).bind fun t6 =>
                  bif (decide (((ByteArray.size (⟨#[99, 111, 109, 109, 97, 110, 100, 32]⟩ : ByteArray)) + (ByteArray.size t6.1.1)) ≤ (1099511627776 : Nat))) then
                    some ((((⟨#[99, 111, 109, 109, 97, 110, 100, 32]⟩ : ByteArray) ++ t6.1.1), ()), ())
                  else none
              else
                some (((⟨#[97, 115, 107]⟩ : ByteArray), ()), ())
    else
      some (((⟨#[]⟩ : ByteArray), ()), ())
def impl_within (x0 : Int) (x1 : Int) (x2 : Int) : Option ((Bool × Unit) × Unit) :=
  bif (decide (x1 ≤ x0)) then
    some (((decide (x0 ≤ x2)), ()), ())
  else
    some ((false, ()), ())
def impl_eventOk (x0 : D_Event) : Option ((Bool × Unit) × Unit) :=
  bif (decide (x0.1 = (1 : Int))) then
    bif (decide (x0.2.1 = (0 : Int))) then
      some (((decide ((((List.length x0.2.2.1) : Nat) : Int) ≤ (2000 : Int))), ()), ())
    else
      some ((false, ()), ())
  else
    bif (decide (x0.1 = (3 : Int))) then
      bif (decide (x0.2.1 = (0 : Int))) then
        bif (decide ((((List.length x0.2.2.1) : Nat) : Int) ≤ (2000 : Int))) then
          some ((((decide (x0.2.2.2.1.1 = (0 : Int))) && ((decide (x0.2.2.2.1.2.1 = (0 : Int))) && ((decide (x0.2.2.2.1.2.2.1 = (0 : Int))) && true))), ()), ())
        else
          some ((false, ()), ())
      else
        some ((false, ()), ())
    else
      bif (decide (x0.1 = (2 : Int))) then
        (impl_within x0.2.1 (1 : Int) (4000 : Int)).bind fun t1 =>
          bif t1.1.1 then
            bif (decide ((((List.length x0.2.2.1) : Nat) : Int) = (0 : Int))) then
              some ((((decide (x0.2.2.2.1.1 = (0 : Int))) && ((decide (x0.2.2.2.1.2.1 = (0 : Int))) && ((decide (x0.2.2.2.1.2.2.1 = (0 : Int))) && true))), ()), ())
            else
              some ((false, ()), ())
          else
            some ((false, ()), ())
      else
        bif (decide (x0.1 = (4 : Int))) then
          bif (decide (x0.2.1 = (0 : Int))) then
            bif (decide ((((List.length x0.2.2.1) : Nat) : Int) = (0 : Int))) then
              some ((((decide (x0.2.2.2.1.1 = (0 : Int))) && ((decide (x0.2.2.2.1.2.1 = (0 : Int))) && ((decide (x0.2.2.2.1.2.2.1 = (0 : Int))) && true))), ()), ())
            else
              some ((false, ()), ())
          else
            some ((false, ()), ())
        else
          some ((false, ()), ())
def impl_EventsOk_s3 (rec : (Unit × ((List D_Event) × (Int × ((List D_Event) × (Int × (Int × Unit)))))) → Option ((Unit × (Bool × Unit)) ⊕ (Unit × ((List D_Event) × (Int × Unit))))) (v : (Unit × ((List D_Event) × (Int × ((List D_Event) × (Int × (Int × Unit))))))) : Option ((Unit × (Bool × Unit)) ⊕ (Unit × ((List D_Event) × (Int × Unit)))) :=
  bif (decide (v.2.2.2.2.2.1 < v.2.2.2.2.1)) then
    bif ((decide ((0 : Int) ≤ v.2.2.2.2.2.1)) && (decide (v.2.2.2.2.2.1 < (((List.length v.2.2.2.1) : Nat) : Int)))) then
      bif (decide ((Int.toNat v.2.2.2.2.2.1) < (List.length v.2.2.2.1))) then
        (impl_eventOk (List.getD v.2.2.2.1 (Int.toNat v.2.2.2.2.2.1) z_Event)).bind fun t1 =>
          bif (!t1.1.1) then
            some (Sum.inl ((), false, ()))
          else
            rec ((), v.2.1, (IntKind.wrap .i64 (v.2.2.1 + (List.getD v.2.2.2.1 (Int.toNat v.2.2.2.2.2.1) z_Event).2.1)), v.2.2.2.1, v.2.2.2.2.1, (IntKind.wrap .i64 (v.2.2.2.2.2.1 + (1 : Int))), ())
      else none
    else none
  else
    some (Sum.inr ((), v.2.1, v.2.2.1, ()))
def impl_EventsOk (k : Nat) (x0 : (List D_Event)) : Option ((Bool × Unit) × Unit) :=
  (iter (impl_EventsOk_s3) k ((), x0, (0 : Int), x0, (((List.length x0) : Nat) : Int), (0 : Int), ())).bind fun o1 =>
    Sum.elim (fun a2 =>
      some (a2.2, ()))
    (fun b3 =>
      bif (decide ((((List.length b3.2.1) : Nat) : Int) ≤ (200 : Int))) then
        some (((decide (b3.2.2.1 ≤ (4000 : Int))), ()), ())
      else
        some ((false, ()), ())) o1
def impl_Vec_isFrom (x0 : D_Vec) (x1 : Int) (x2 : Int) : Option ((Bool × Unit) × Unit) :=
  (impl_within x0.1 x1 x2).bind fun t1 =>
    bif t1.1.1 then
      (impl_within x0.2.1 x1 x2).bind fun t2 =>
        bif t2.1.1 then
          (impl_within x0.2.2.1 x1 x2).bind fun t3 =>
            some (t3.1, ())
        else
          some ((false, ()), ())
    else
      some ((false, ()), ())
def impl_VecText (x0 : D_Vec) : Option ((ByteArray × Unit) × Unit) :=
  (impl_NumText x0.1).bind fun t1 =>
    bif (decide (((ByteArray.size t1.1.1) + (ByteArray.size (⟨#[47]⟩ : ByteArray))) ≤ (1099511627776 : Nat))) then
      (impl_NumText x0.2.1).bind fun t2 =>
        bif (decide (((ByteArray.size (t1.1.1 ++ (⟨#[47]⟩ : ByteArray))) + (ByteArray.size t2.1.1)) ≤ (1099511627776 : Nat))) then
          bif (decide (((ByteArray.size ((t1.1.1 ++ (⟨#[47]⟩ : ByteArray)) ++ t2.1.1)) + (ByteArray.size (⟨#[47]⟩ : ByteArray))) ≤ (1099511627776 : Nat))) then
            (impl_NumText x0.2.2.1).bind fun t3 =>
              bif (decide (((ByteArray.size (((t1.1.1 ++ (⟨#[47]⟩ : ByteArray)) ++ t2.1.1) ++ (⟨#[47]⟩ : ByteArray))) + (ByteArray.size t3.1.1)) ≤ (1099511627776 : Nat))) then
                some ((((((t1.1.1 ++ (⟨#[47]⟩ : ByteArray)) ++ t2.1.1) ++ (⟨#[47]⟩ : ByteArray)) ++ t3.1.1), ()), ())
              else none
          else none
        else none
    else none
def impl_EventText (k : Nat) (x0 : D_Event) : Option ((ByteArray × Unit) × Unit) :=
  (impl_EventsOk k ([x0] : List D_Event)).bind fun t1 =>
    bif (!(!t1.1.1)) then
      (impl_Vec_isFrom x0.2.2.2.1 (0 : Int) (999999999999 : Int)).bind fun t2 =>
        bif (!t2.1.1) then
          some (((⟨#[]⟩ : ByteArray), ()), ())
        else
          bif (decide (x0.1 = (1 : Int))) then
            (impl_VecText x0.2.2.2.1).bind fun t3 =>
              bif (decide (((ByteArray.size (⟨#[102, 114, 97, 109, 101, 32]⟩ : ByteArray)) + (ByteArray.size t3.1.1)) ≤ (1099511627776 : Nat))) then
                bif (decide (((ByteArray.size ((⟨#[102, 114, 97, 109, 101, 32]⟩ : ByteArray) ++ t3.1.1)) + (ByteArray.size (⟨#[32]⟩ : ByteArray))) ≤ (1099511627776 : Nat))) then
                  (impl_HexText k x0.2.2.1).bind fun t4 =>
                    bif (decide (((ByteArray.size (((⟨#[102, 114, 97, 109, 101, 32]⟩ : ByteArray) ++ t3.1.1) ++ (⟨#[32]⟩ : ByteArray))) + (ByteArray.size t4.1.1)) ≤ (1099511627776 : Nat))) then
                      some ((((((⟨#[102, 114, 97, 109, 101, 32]⟩ : ByteArray) ++ t3.1.1) ++ (⟨#[32]⟩ : ByteArray)) ++ t4.1.1), ()), ())
                    else none
                else none
              else none
          else
            bif (decide (x0.1 = (2 : Int))) then
              (impl_NumText x0.2.1).bind fun t5 =>
                bif (decide (((ByteArray.size (⟨#[116, 105, 99, 107, 32]⟩ : ByteArray)) + (ByteArray.size t5.1.1)) ≤ (1099511627776 : Nat))) then
                  some ((((⟨#[116, 105, 99, 107, 32]⟩ : ByteArray) ++ t5.1.1), ()), ())
                else none
            else
              bif (decide (x0.1 = (3 : Int))) then
                (impl_HexText k x0.2.2.1).bind fun t6 =>
                  bif (decide (((ByteArray.size (⟨#[99, 111, 109, 109, 97, 110, 100, 32]⟩ : ByteArray)) + (ByteArray.size t6.1.1)) ≤ (1099511627776 : Nat))) then
                    some ((((⟨#[99, 111, 109, 109, 97, 110, 100, 32]⟩ : ByteArray) ++ t6.1.1), ()), ())
                  else none
              else
                some (((⟨#[97, 115, 107]⟩ : ByteArray), ()), ())
    else
      some (((⟨#[]⟩ : ByteArray), ()), ())
def laws_eqVec (x0 : D_Vec) (x1 : D_Vec) : Option ((Bool × Unit) × Unit) :=
  bif (!(decide (x0.1 = x1.1))) then
    some ((false, ()), ())
  else
    bif (!(decide (x0.2.1 = x1.2.1))) then
      some ((false, ()), ())
    else
      bif (!(decide (x0.2.2.1 = x1.2.2.1))) then
        some ((false, ()), ())
      else
        some ((true, ()), ())
def laws_eqEvent (k : Nat) (x0 : D_Event) (x1 : D_Event) : Option ((Bool × Unit) × Unit) :=
  bif (!(decide (x0.1 = x1.1))) then
    some ((false, ()), ())
  else
    bif (!(decide (x0.2.1 = x1.2.1))) then
      some ((false, ()), ())
    else
      (laws_eqByteS k x0.2.2.1 x1.2.2.1).bind fun t1 =>
        bif (!t1.1.1) then
          some ((false, ()), ())
        else
          (laws_eqVec x0.2.2.2.1 x1.2.2.2.1).bind fun t2 =>
            bif (!t2.1.1) then
              some ((false, ()), ())
            else
              some ((true, ()), ())
def laws_FnExactEventText (k : Nat) (x0 : D_Event) : Option ((Bool × Unit) × Unit) :=
  (laws_szEvent x0 (1048576 : Int)).bind fun t1 =>
    bif (decide (t1.1.1 < (0 : Int))) then
      some ((true, ()), ())
    else
      (laws_toEvent k x0).bind fun t2 =>
        (spec_EventText k t2.1.1).bind fun t3 =>
          (laws_toEvent k x0).bind fun t4 =>
            (impl_EventText k t4.1.1).bind fun t5 =>
              bif (!(decide (t5.1.1.data.toList = t3.1.1.data.toList))) then
                some ((false, ()), ())
              else
                (laws_toEvent k x0).bind fun t6 =>
                  (laws_eqEvent k t4.1.1 t6.1.1).bind fun t7 =>
                    bif (!t7.1.1) then
                      some ((false, ()), ())
                    else
                      some ((true, ()), ())
def laws_szProfS (x0 : (List D_Prof)) (x1 : Int) : Option ((Int × Unit) × Unit) :=
  bif (decide ((IntKind.wrap .i64 (x1 - (((List.length x0) : Nat) : Int))) < (0 : Int))) then
    some (((-1 : Int), ()), ())
  else
    some (((IntKind.wrap .i64 (x1 - (((List.length x0) : Nat) : Int))), ()), ())
def laws_szConf (x0 : D_Conf) (x1 : Int) : Option ((Int × Unit) × Unit) :=
  (laws_szProfS x0.2.2.2.2.2.2.1 x1).bind fun t1 =>
    bif (decide (t1.1.1 < (0 : Int))) then
      some (((-1 : Int), ()), ())
    else
      some (t1.1, ())
def laws_toLimits (x0 : D_Limits) : Option ((D_Limits × Unit) × Unit) :=
  some ((x0, ()), ())
def laws_toProf (x0 : D_Prof) : Option ((D_Prof × Unit) × Unit) :=
  (laws_toVec x0.1).bind fun t1 =>
    (laws_toVec x0.2.1).bind fun t2 =>
      some (((t1.1.1, t2.1), ()), ())
def laws_toProfS_s3 (rec : (Unit × ((List D_Prof) × ((List D_Prof) × (Int × Unit)))) → Option ((Unit × ((List D_Prof) × Unit)))) (v : (Unit × ((List D_Prof) × ((List D_Prof) × (Int × Unit))))) : Option ((Unit × ((List D_Prof) × Unit))) :=
  bif (decide (v.2.2.2.1 < (((List.length v.2.1) : Nat) : Int))) then
    bif ((decide ((0 : Int) ≤ v.2.2.2.1)) && (decide (v.2.2.2.1 < (((List.length v.2.1) : Nat) : Int)))) then
      bif (decide ((Int.toNat v.2.2.2.1) < (List.length v.2.1))) then
        (laws_toProf (List.getD v.2.1 (Int.toNat v.2.2.2.1) z_Prof)).bind fun t1 =>
          bif ((decide ((0 : Int) ≤ v.2.2.2.1)) && (decide (v.2.2.2.1 < (((List.length v.2.2.1) : Nat) : Int)))) then
            bif (decide ((Int.toNat v.2.2.2.1) < (List.length v.2.2.1))) then
              let y2 : (List D_Prof) := (List.set v.2.2.1 (Int.toNat v.2.2.2.1) t1.1.1)
              rec ((), v.2.1, y2, (IntKind.wrap .i64 (v.2.2.2.1 + (1 : Int))), ())
            else none
          else none
      else none
    else none
  else
    some ((), v.2.2.1, ())
def laws_toProfS (k : Nat) (x0 : (List D_Prof)) : Option (((List D_Prof) × Unit) × Unit) :=
  bif (((decide ((0 : Int) ≤ (((List.length x0) : Nat) : Int))) && (decide ((((List.length x0) : Nat) : Int) ≤ (((List.length x0) : Nat) : Int)))) && (decide (((48 : Int) * (((List.length x0) : Nat) : Int)) ≤ (1099511627776 : Int)))) then
    (iter (laws_toProfS_s3) k ((), x0, (List.replicate (List.length x0) (((0 : Int), (0 : Int), (0 : Int), ()), ((0 : Int), (0 : Int), (0 : Int), ()), ())), (0 : Int), ())).bind fun o1 =>
      some (o1.2, ())
  else none
def laws_toConf (k : Nat) (x0 : D_Conf) : Option ((D_Conf × Unit) × Unit) :=
  (laws_toLimits x0.2.2.2.2.2.1).bind fun t1 =>
    (laws_toProfS k x0.2.2.2.2.2.2.1).bind fun t2 =>
      some (((x0.1, x0.2.1, x0.2.2.1, x0.2.2.2.1, x0.2.2.2.2.1, t1.1.1, t2.1), ()), ())
def spec_l11Count_s3 (rec : (Unit × (D_Table × (Int × (Int × Unit)))) → Option ((Unit × (Int × Unit)))) (v : (Unit × (D_Table × (Int × (Int × Unit))))) : Option ((Unit × (Int × Unit))) :=
  bif (decide (v.2.2.2.1 < (((List.length v.2.1.2.1) : Nat) : Int))) then
    bif ((decide ((0 : Int) ≤ v.2.2.2.1)) && (decide (v.2.2.2.1 < (((List.length v.2.1.2.1) : Nat) : Int)))) then
      bif (decide ((Int.toNat v.2.2.2.1) < (List.length v.2.1.2.1))) then
        bif (List.getD v.2.1.2.1 (Int.toNat v.2.2.2.1) z_Cell).1 then
          rec ((), v.2.1, (IntKind.wrap .i64 (v.2.2.1 + (1 : Int))), (IntKind.wrap .i64 (v.2.2.2.1 + (1 : Int))), ())
        else
          rec ((), v.2.1, v.2.2.1, (IntKind.wrap .i64 (v.2.2.2.1 + (1 : Int))), ())
      else none
    else none
  else
    some ((), v.2.2.1, ())
def spec_l11Count (k : Nat) (x0 : D_Table) : Option ((Int × Unit) × Unit) :=
  (iter (spec_l11Count_s3) k ((), x0, (0 : Int), (0 : Int), ())).bind fun o1 =>
    some (o1.2, ())
def spec_l03Half (x0 : Int) : Option ((Bool × Unit) × Unit) :=
  bif (decide ((0 : Int) ≤ x0)) then
    some (((decide (x0 ≤ (4294967295 : Int))), ()), ())
  else
    some ((false, ()), ())
def spec_AddrOk (x0 : D_Addr) : Option ((Bool × Unit) × Unit) :=
  bif (decide (x0.1 = (4 : Int))) then
    bif (decide (x0.2.1 = (0 : Int))) then
      bif (decide (x0.2.2.1 = (0 : Int))) then
        bif (decide (x0.2.2.2.1 = (0 : Int))) then
          (spec_l03Half x0.2.2.2.2.1).bind fun t1 =>
            some (t1.1, ())
        else
          some ((false, ()), ())
      else
        some ((false, ()), ())
    else
      some ((false, ()), ())
  else
    bif (decide (x0.1 = (6 : Int))) then
      (spec_l03Half x0.2.1).bind fun t2 =>
        bif t2.1.1 then
          (spec_l03Half x0.2.2.1).bind fun t3 =>
            bif t3.1.1 then
              (spec_l03Half x0.2.2.2.1).bind fun t4 =>
                bif t4.1.1 then
                  (spec_l03Half x0.2.2.2.2.1).bind fun t5 =>
                    some (t5.1, ())
                else
                  some ((false, ()), ())
            else
              some ((false, ()), ())
        else
          some ((false, ()), ())
    else
      some ((false, ()), ())
def spec_l07Pair (x0 : D_Addr) (x1 : D_Addr) : Option ((Bool × Unit) × Unit) :=
  (spec_AddrOk x0).bind fun t1 =>
    bif t1.1.1 then
      (spec_AddrOk x1).bind fun t2 =>
        bif t2.1.1 then
          some (((decide (x0.1 = x1.1)), ()), ())
        else
          some ((false, ()), ())
    else
      some ((false, ()), ())
def spec_l05In (x0 : Int) (x1 : Int) : Option ((Bool × Unit) × Unit) :=
  bif (decide ((0 : Int) ≤ x0)) then
    some (((decide (x0 ≤ x1)), ()), ())
  else
    some ((false, ()), ())
def spec_KeyOk (x0 : D_Key) : Option ((Bool × Unit) × Unit) :=
  (spec_l07Pair x0.1 x0.2.1).bind fun t1 =>
    bif t1.1.1 then
      (spec_l05In x0.2.2.1 (255 : Int)).bind fun t2 =>
        bif t2.1.1 then
          (spec_l05In x0.2.2.2.1 (65535 : Int)).bind fun t3 =>
            bif t3.1.1 then
              (spec_l05In x0.2.2.2.2.1 (65535 : Int)).bind fun t4 =>
                some (t4.1, ())
            else
              some ((false, ()), ())
        else
          some ((false, ()), ())
    else
      some ((false, ()), ())
def spec_FlowKeyOk (x0 : D_FlowKey) : Option ((Bool × Unit) × Unit) :=
  bif (decide ((1 : Int) ≤ x0.1)) then
    bif (decide (x0.1 ≤ (8 : Int))) then
      (spec_KeyOk x0.2.1).bind fun t1 =>
        some (t1.1, ())
    else
      some ((false, ()), ())
  else
    some ((false, ()), ())
def spec_l11Place_s2 (rec : (Unit × (D_Table × (D_FlowKey × (Int × Unit)))) → Option ((Unit × (Int × Unit)) ⊕ (Unit × Unit))) (v : (Unit × (D_Table × (D_FlowKey × (Int × Unit))))) : Option ((Unit × (Int × Unit)) ⊕ (Unit × Unit)) :=
  bif (decide (v.2.2.2.1 < (((List.length v.2.1.2.1) : Nat) : Int))) then
    bif ((decide ((0 : Int) ≤ v.2.2.2.1)) && (decide (v.2.2.2.1 < (((List.length v.2.1.2.1) : Nat) : Int)))) then
      bif (decide ((Int.toNat v.2.2.2.1) < (List.length v.2.1.2.1))) then
        bif (List.getD v.2.1.2.1 (Int.toNat v.2.2.2.1) z_Cell).1 then
          bif ((decide ((0 : Int) ≤ v.2.2.2.1)) && (decide (v.2.2.2.1 < (((List.length v.2.1.2.1) : Nat) : Int)))) then
            bif (decide ((Int.toNat v.2.2.2.1) < (List.length v.2.1.2.1))) then
              bif ((decide ((List.getD v.2.1.2.1 (Int.toNat v.2.2.2.1) z_Cell).2.1.1 = v.2.2.1.1)) && ((((decide ((List.getD v.2.1.2.1 (Int.toNat v.2.2.2.1) z_Cell).2.1.2.1.1.1 = v.2.2.1.2.1.1.1)) && ((decide ((List.getD v.2.1.2.1 (Int.toNat v.2.2.2.1) z_Cell).2.1.2.1.1.2.1 = v.2.2.1.2.1.1.2.1)) && ((decide ((List.getD v.2.1.2.1 (Int.toNat v.2.2.2.1) z_Cell).2.1.2.1.1.2.2.1 = v.2.2.1.2.1.1.2.2.1)) && ((decide ((List.getD v.2.1.2.1 (Int.toNat v.2.2.2.1) z_Cell).2.1.2.1.1.2.2.2.1 = v.2.2.1.2.1.1.2.2.2.1)) && ((decide ((List.getD v.2.1.2.1 (Int.toNat v.2.2.2.1) z_Cell).2.1.2.1.1.2.2.2.2.1 = v.2.2.1.2.1.1.2.2.2.2.1)) && true))))) && (((decide ((List.getD v.2.1.2.1 (Int.toNat v.2.2.2.1) z_Cell).2.1.2.1.2.1.1 = v.2.2.1.2.1.2.1.1)) && ((decide ((List.getD v.2.1.2.1 (Int.toNat v.2.2.2.1) z_Cell).2.1.2.1.2.1.2.1 = v.2.2.1.2.1.2.1.2.1)) && ((decide ((List.getD v.2.1.2.1 (Int.toNat v.2.2.2.1) z_Cell).2.1.2.1.2.1.2.2.1 = v.2.2.1.2.1.2.1.2.2.1)) && ((decide ((List.getD v.2.1.2.1 (Int.toNat v.2.2.2.1) z_Cell).2.1.2.1.2.1.2.2.2.1 = v.2.2.1.2.1.2.1.2.2.2.1)) && ((decide ((List.getD v.2.1.2.1 (Int.toNat v.2.2.2.1) z_Cell).2.1.2.1.2.1.2.2.2.2.1 = v.2.2.1.2.1.2.1.2.2.2.2.1)) && true))))) && ((decide ((List.getD v.2.1.2.1 (Int.toNat v.2.2.2.1) z_Cell).2.1.2.1.2.2.1 = v.2.2.1.2.1.2.2.1)) && ((decide ((List.getD v.2.1.2.1 (Int.toNat v.2.2.2.1) z_Cell).2.1.2.1.2.2.2.1 = v.2.2.1.2.1.2.2.2.1)) && ((decide ((List.getD v.2.1.2.1 (Int.toNat v.2.2.2.1) z_Cell).2.1.2.1.2.2.2.2.1 = v.2.2.1.2.1.2.2.2.2.1)) && true))))) && true)) then
                some (Sum.inl ((), v.2.2.2))
              else
                rec ((), v.2.1, v.2.2.1, (IntKind.wrap .i64 (v.2.2.2.1 + (1 : Int))), ())
            else none
          else none
        else
          rec ((), v.2.1, v.2.2.1, (IntKind.wrap .i64 (v.2.2.2.1 + (1 : Int))), ())
      else none
    else none
  else
    some (Sum.inr ((), ()))
def spec_l11Place (k : Nat) (x0 : D_Table) (x1 : D_FlowKey) : Option ((Int × Unit) × Unit) :=
  (iter (spec_l11Place_s2) k ((), x0, x1, (0 : Int), ())).bind fun o1 =>
    Sum.elim (fun a2 =>
      some (a2.2, ()))
    (fun b3 =>
      some (((-1 : Int), ()), ())) o1
def spec_l01Low (x0 : Int) (x1 : Int) : Option ((Int × Unit) × Unit) :=
  bif (!(decide (x1 = (0 : Int)))) then
    bif (decide ((Int.tmod x0 x1) < (0 : Int))) then
      some (((IntKind.wrap .i64 ((Int.tmod x0 x1) + x1)), ()), ())
    else
      some (((Int.tmod x0 x1), ()), ())
  else none
def spec_Put16 (x0 : Int) : Option (((List Int) × Unit) × Unit) :=
  (spec_l01Low x0 (65536 : Int)).bind fun t1 =>
    some ((([(IntKind.wrap .u8 (IntKind.wrap .i64 (Int.tdiv t1.1.1 (256 : Int)))), (IntKind.wrap .u8 (Int.tmod t1.1.1 (256 : Int)))] : List Int), ()), ())
def spec_Put32 (x0 : Int) : Option (((List Int) × Unit) × Unit) :=
  (spec_l01Low x0 (4294967296 : Int)).bind fun t1 =>
    (spec_Put16 (IntKind.wrap .i64 (Int.tdiv t1.1.1 (65536 : Int)))).bind fun t2 =>
      (spec_Put16 (Int.tmod t1.1.1 (65536 : Int))).bind fun t3 =>
        bif (decide ((((List.length t2.1.1) + (List.length t3.1.1)) * 1) ≤ (1099511627776 : Nat))) then
          some (((t2.1.1 ++ t3.1.1), ()), ())
        else none
def spec_AddrBytes (x0 : D_Addr) : Option (((List Int) × Unit) × Unit) :=
  (spec_AddrOk x0).bind fun t1 =>
    bif (!t1.1.1) then
      some ((([] : List Int), ()), ())
    else
      bif (decide (x0.1 = (4 : Int))) then
        (spec_Put32 x0.2.2.2.2.1).bind fun t2 =>
          some (t2.1, ())
      else
        (spec_Put32 x0.2.1).bind fun t3 =>
          (spec_Put32 x0.2.2.1).bind fun t4 =>
            bif (decide ((((List.length t3.1.1) + (List.length t4.1.1)) * 1) ≤ (1099511627776 : Nat))) then
              (spec_Put32 x0.2.2.2.1).bind fun t5 =>
                bif (decide ((((List.length (t3.1.1 ++ t4.1.1)) + (List.length t5.1.1)) * 1) ≤ (1099511627776 : Nat))) then
                  (spec_Put32 x0.2.2.2.2.1).bind fun t6 =>
                    bif (decide ((((List.length ((t3.1.1 ++ t4.1.1) ++ t5.1.1)) + (List.length t6.1.1)) * 1) ≤ (1099511627776 : Nat))) then
                      some (((((t3.1.1 ++ t4.1.1) ++ t5.1.1) ++ t6.1.1), ()), ())
                    else none
                else none
            else none
def spec_l11Bytes (x0 : D_FlowKey) : Option (((List Int) × Unit) × Unit) :=
  (spec_AddrBytes x0.2.1.1).bind fun t1 =>
    bif (decide ((((2 : Nat) + (List.length t1.1.1)) * 1) ≤ (1099511627776 : Nat))) then
      (spec_AddrBytes x0.2.1.2.1).bind fun t2 =>
        bif (decide ((((List.length (([(IntKind.wrap .u8 x0.1), (IntKind.wrap .u8 x0.2.1.1.1)] : List Int) ++ t1.1.1)) + (List.length t2.1.1)) * 1) ≤ (1099511627776 : Nat))) then
          bif (decide ((((List.length ((([(IntKind.wrap .u8 x0.1), (IntKind.wrap .u8 x0.2.1.1.1)] : List Int) ++ t1.1.1) ++ t2.1.1)) + (1 : Nat)) * 1) ≤ (1099511627776 : Nat))) then
            (spec_Put16 x0.2.1.2.2.2.1).bind fun t3 =>
              bif (decide ((((List.length (((([(IntKind.wrap .u8 x0.1), (IntKind.wrap .u8 x0.2.1.1.1)] : List Int) ++ t1.1.1) ++ t2.1.1) ++ ([(IntKind.wrap .u8 x0.2.1.2.2.1)] : List Int))) + (List.length t3.1.1)) * 1) ≤ (1099511627776 : Nat))) then
                (spec_Put16 x0.2.1.2.2.2.2.1).bind fun t4 =>
                  bif (decide ((((List.length ((((([(IntKind.wrap .u8 x0.1), (IntKind.wrap .u8 x0.2.1.1.1)] : List Int) ++ t1.1.1) ++ t2.1.1) ++ ([(IntKind.wrap .u8 x0.2.1.2.2.1)] : List Int)) ++ t3.1.1)) + (List.length t4.1.1)) * 1) ≤ (1099511627776 : Nat))) then
                    some (((((((([(IntKind.wrap .u8 x0.1), (IntKind.wrap .u8 x0.2.1.1.1)] : List Int) ++ t1.1.1) ++ t2.1.1) ++ ([(IntKind.wrap .u8 x0.2.1.2.2.1)] : List Int)) ++ t3.1.1) ++ t4.1.1), ()), ())
                  else none
              else none
          else none
        else none
    else none
def spec_HashOf_s6 (rec : (Unit × (Int × ((List Int) × (Int × Unit)))) → Option ((Unit × (Int × Unit)))) (v : (Unit × (Int × ((List Int) × (Int × Unit))))) : Option ((Unit × (Int × Unit))) :=
  bif (decide (v.2.2.2.1 < (((List.length v.2.2.1) : Nat) : Int))) then
    bif ((decide ((0 : Int) ≤ v.2.2.2.1)) && (decide (v.2.2.2.1 < (((List.length v.2.2.1) : Nat) : Int)))) then
      bif (decide ((Int.toNat v.2.2.2.1) < (List.length v.2.2.1))) then
        rec ((), (Int.tmod (IntKind.wrap .i64 ((IntKind.wrap .i64 (BitVec.ofInt (IntKind.bits .i64) v.2.1 ^^^ BitVec.ofInt (IntKind.bits .i64) (IntKind.wrap .i64 (List.getD v.2.2.1 (Int.toNat v.2.2.2.1) (0 : Int)))).toNat) * (16777619 : Int))) (4294967296 : Int)), v.2.2.1, (IntKind.wrap .i64 (v.2.2.2.1 + (1 : Int))), ())
      else none
    else none
  else
    some ((), v.2.1, ())
def spec_HashOf (k : Nat) (x0 : Int) (x1 : D_FlowKey) : Option ((Int × Unit) × Unit) :=
  bif (!(decide (x0 < (0 : Int)))) then
    bif (!(decide ((4294967295 : Int) < x0))) then
      (spec_FlowKeyOk x1).bind fun t1 =>
        bif (!t1.1.1) then
          some (((-1 : Int), ()), ())
        else
          (spec_l11Bytes x1).bind fun t2 =>
            (iter (spec_HashOf_s6) k ((), x0, t2.1.1, (0 : Int), ())).bind fun o3 =>
              some (((IntKind.wrap .i64 (BitVec.ofInt (IntKind.bits .i64) o3.2.1 ^^^ BitVec.ofInt (IntKind.bits .i64) (IntKind.wrap .i64 (Int.tdiv o3.2.1 (65536 : Int)))).toNat), ()), ())
    else
      some (((-1 : Int), ()), ())
  else
    some (((-1 : Int), ()), ())
def spec_l11Home (k : Nat) (x0 : D_Table) (x1 : D_FlowKey) : Option ((Int × Unit) × Unit) :=
  (spec_HashOf k x0.1 x1).bind fun t1 =>
    bif (!(decide ((((List.length x0.2.1) : Nat) : Int) = (0 : Int)))) then
      some (((Int.tmod t1.1.1 (((List.length x0.2.1) : Nat) : Int)), ()), ())
    else none
def spec_TableOk_s16 (rec : (Unit × (D_Table × D_Vec)) → Option ((Unit × (Bool × Unit)) ⊕ (Unit × (D_Table × (Int × (Int × Unit)))))) (v : (Unit × (D_Table × D_Vec))) : Option ((Unit × (Bool × Unit)) ⊕ (Unit × (D_Table × (Int × (Int × Unit))))) :=
  bif (!(decide (v.2.2.2.2.1 = v.2.2.2.1))) then
    bif ((decide ((0 : Int) ≤ v.2.2.2.2.1)) && (decide (v.2.2.2.2.1 < (((List.length v.2.1.2.1) : Nat) : Int)))) then
      bif (decide ((Int.toNat v.2.2.2.2.1) < (List.length v.2.1.2.1))) then
        bif (!(List.getD v.2.1.2.1 (Int.toNat v.2.2.2.2.1) z_Cell).1) then
          some (Sum.inl ((), false, ()))
        else
          bif (!(decide (v.2.2.1 = (0 : Int)))) then
            rec ((), v.2.1, v.2.2.1, v.2.2.2.1, (Int.tmod (IntKind.wrap .i64 (v.2.2.2.2.1 + (1 : Int))) v.2.2.1), ())
          else none
      else none
    else none
  else
    some (Sum.inr ((), v.2.1, v.2.2.1, v.2.2.2.1, ()))
def spec_TableOk_s7 (k : Nat) (rec : (Unit × (D_Table × (Int × (Int × Unit)))) → Option ((Unit × (Bool × Unit)) ⊕ (Unit × Unit))) (v : (Unit × (D_Table × (Int × (Int × Unit))))) : Option ((Unit × (Bool × Unit)) ⊕ (Unit × Unit)) :=
  bif (decide (v.2.2.2.1 < v.2.2.1)) then
    bif ((decide ((0 : Int) ≤ v.2.2.2.1)) && (decide (v.2.2.2.1 < (((List.length v.2.1.2.1) : Nat) : Int)))) then
      bif (decide ((Int.toNat v.2.2.2.1) < (List.length v.2.1.2.1))) then
        bif (!(List.getD v.2.1.2.1 (Int.toNat v.2.2.2.1) z_Cell).1) then
          bif (!(((List.getD v.2.1.2.1 (Int.toNat v.2.2.2.1) z_Cell).1 == false) && (((decide ((List.getD v.2.1.2.1 (Int.toNat v.2.2.2.1) z_Cell).2.1.1 = (0 : Int))) && ((((decide ((List.getD v.2.1.2.1 (Int.toNat v.2.2.2.1) z_Cell).2.1.2.1.1.1 = (0 : Int))) && ((decide ((List.getD v.2.1.2.1 (Int.toNat v.2.2.2.1) z_Cell).2.1.2.1.1.2.1 = (0 : Int))) && ((decide ((List.getD v.2.1.2.1 (Int.toNat v.2.2.2.1) z_Cell).2.1.2.1.1.2.2.1 = (0 : Int))) && ((decide ((List.getD v.2.1.2.1 (Int.toNat v.2.2.2.1) z_Cell).2.1.2.1.1.2.2.2.1 = (0 : Int))) && ((decide ((List.getD v.2.1.2.1 (Int.toNat v.2.2.2.1) z_Cell).2.1.2.1.1.2.2.2.2.1 = (0 : Int))) && true))))) && (((decide ((List.getD v.2.1.2.1 (Int.toNat v.2.2.2.1) z_Cell).2.1.2.1.2.1.1 = (0 : Int))) && ((decide ((List.getD v.2.1.2.1 (Int.toNat v.2.2.2.1) z_Cell).2.1.2.1.2.1.2.1 = (0 : Int))) && ((decide ((List.getD v.2.1.2.1 (Int.toNat v.2.2.2.1) z_Cell).2.1.2.1.2.1.2.2.1 = (0 : Int))) && ((decide ((List.getD v.2.1.2.1 (Int.toNat v.2.2.2.1) z_Cell).2.1.2.1.2.1.2.2.2.1 = (0 : Int))) && ((decide ((List.getD v.2.1.2.1 (Int.toNat v.2.2.2.1) z_Cell).2.1.2.1.2.1.2.2.2.2.1 = (0 : Int))) && true))))) && ((decide ((List.getD v.2.1.2.1 (Int.toNat v.2.2.2.1) z_Cell).2.1.2.1.2.2.1 = (0 : Int))) && ((decide ((List.getD v.2.1.2.1 (Int.toNat v.2.2.2.1) z_Cell).2.1.2.1.2.2.2.1 = (0 : Int))) && ((decide ((List.getD v.2.1.2.1 (Int.toNat v.2.2.2.1) z_Cell).2.1.2.1.2.2.2.2.1 = (0 : Int))) && true))))) && true)) && ((decide ((List.getD v.2.1.2.1 (Int.toNat v.2.2.2.1) z_Cell).2.2.1 = (0 : Int))) && true)))) then
            some (Sum.inl ((), false, ()))
          else
            rec ((), v.2.1, v.2.2.1, (IntKind.wrap .i64 (v.2.2.2.1 + (1 : Int))), ())
        else
          (spec_FlowKeyOk (List.getD v.2.1.2.1 (Int.toNat v.2.2.2.1) z_Cell).2.1).bind fun t2 =>
            bif (!(!t2.1.1)) then
              bif (!(decide ((List.getD v.2.1.2.1 (Int.toNat v.2.2.2.1) z_Cell).2.2.1 < (0 : Int)))) then
                bif (!(decide ((1000000000000 : Int) < (List.getD v.2.1.2.1 (Int.toNat v.2.2.2.1) z_Cell).2.2.1))) then
                  (spec_l11Place k v.2.1 (List.getD v.2.1.2.1 (Int.toNat v.2.2.2.1) z_Cell).2.1).bind fun t3 =>
                    bif (!(decide (t3.1.1 = v.2.2.2.1))) then
                      some (Sum.inl ((), false, ()))
                    else
                      (spec_l11Home k v.2.1 (List.getD v.2.1.2.1 (Int.toNat v.2.2.2.1) z_Cell).2.1).bind fun t4 =>
                        (iter (spec_TableOk_s16) k ((), v.2.1, v.2.2.1, v.2.2.2.1, t4.1)).bind fun o5 =>
                          Sum.elim (fun a6 =>
                            some (Sum.inl ((), a6.2)))
                          (fun b7 =>
                            rec ((), b7.2.1, b7.2.2.1, (IntKind.wrap .i64 (b7.2.2.2.1 + (1 : Int))), ())) o5
                else
                  some (Sum.inl ((), false, ()))
              else
                some (Sum.inl ((), false, ()))
            else
              some (Sum.inl ((), false, ()))
      else none
    else none
  else
    some (Sum.inr ((), ()))
def spec_TableOk (k : Nat) (x0 : D_Table) : Option ((Bool × Unit) × Unit) :=
  bif (!(decide (x0.1 < (0 : Int)))) then
    bif (!(decide ((4294967295 : Int) < x0.1))) then
      bif (!(decide ((((List.length x0.2.1) : Nat) : Int) = (4 : Int)))) then
        bif (!(decide ((((List.length x0.2.1) : Nat) : Int) = (8 : Int)))) then
          bif (!(decide ((((List.length x0.2.1) : Nat) : Int) = (16 : Int)))) then
            bif (!(decide ((((List.length x0.2.1) : Nat) : Int) = (32 : Int)))) then
              bif (!(decide ((((List.length x0.2.1) : Nat) : Int) = (64 : Int)))) then
                some ((false, ()), ())
              else
                (spec_l11Count k x0).bind fun t1 =>
                  bif (decide ((IntKind.wrap .i64 ((3 : Int) * (((List.length x0.2.1) : Nat) : Int))) < (IntKind.wrap .i64 ((4 : Int) * t1.1.1)))) then
                    some ((false, ()), ())
                  else
                    (iter (spec_TableOk_s7 k) k ((), x0, (((List.length x0.2.1) : Nat) : Int), (0 : Int), ())).bind fun o2 =>
                      Sum.elim (fun a3 =>
                        some (a3.2, ()))
                      (fun b4 =>
                        some ((true, ()), ())) o2
            else
              (spec_l11Count k x0).bind fun t5 =>
                bif (decide ((IntKind.wrap .i64 ((3 : Int) * (((List.length x0.2.1) : Nat) : Int))) < (IntKind.wrap .i64 ((4 : Int) * t5.1.1)))) then
                  some ((false, ()), ())
                else
                  (iter (spec_TableOk_s7 k) k ((), x0, (((List.length x0.2.1) : Nat) : Int), (0 : Int), ())).bind fun o6 =>
                    Sum.elim (fun a7 =>
                      some (a7.2, ()))
                    (fun b8 =>
                      some ((true, ()), ())) o6
          else
            (spec_l11Count k x0).bind fun t9 =>
              bif (decide ((IntKind.wrap .i64 ((3 : Int) * (((List.length x0.2.1) : Nat) : Int))) < (IntKind.wrap .i64 ((4 : Int) * t9.1.1)))) then
                some ((false, ()), ())
              else
                (iter (spec_TableOk_s7 k) k ((), x0, (((List.length x0.2.1) : Nat) : Int), (0 : Int), ())).bind fun o10 =>
                  Sum.elim (fun a11 =>
                    some (a11.2, ()))
                  (fun b12 =>
                    some ((true, ()), ())) o10
        else
          (spec_l11Count k x0).bind fun t13 =>
            bif (decide ((IntKind.wrap .i64 ((3 : Int) * (((List.length x0.2.1) : Nat) : Int))) < (IntKind.wrap .i64 ((4 : Int) * t13.1.1)))) then
              some ((false, ()), ())
            else
              (iter (spec_TableOk_s7 k) k ((), x0, (((List.length x0.2.1) : Nat) : Int), (0 : Int), ())).bind fun o14 =>
                Sum.elim (fun a15 =>
                  some (a15.2, ()))
                (fun b16 =>
                  some ((true, ()), ())) o14
      else
        (spec_l11Count k x0).bind fun t17 =>
          bif (decide ((IntKind.wrap .i64 ((3 : Int) * (((List.length x0.2.1) : Nat) : Int))) < (IntKind.wrap .i64 ((4 : Int) * t17.1.1)))) then
            some ((false, ()), ())
          else
            (iter (spec_TableOk_s7 k) k ((), x0, (((List.length x0.2.1) : Nat) : Int), (0 : Int), ())).bind fun o18 =>
              Sum.elim (fun a19 =>
                some (a19.2, ()))
              (fun b20 =>
                some ((true, ()), ())) o18
    else
      some ((false, ()), ())
  else
    some ((false, ()), ())
def spec_TableNew (k : Nat) (x0 : Int) (x1 : Int) : Option ((D_Table × Unit) × Unit) :=
  bif (!(decide (x1 < (4 : Int)))) then
    bif (decide ((64 : Int) < x1)) then
      some ((((0 : Int), ([] : List D_Cell), ()), ()), ())
    else
      bif (((decide ((0 : Int) ≤ x1)) && (decide (x1 ≤ x1))) && (decide (((128 : Int) * x1) ≤ (1099511627776 : Int)))) then
        (spec_TableOk k (x0, (List.replicate (Int.toNat x1) (false, ((0 : Int), (((0 : Int), (0 : Int), (0 : Int), (0 : Int), (0 : Int), ()), ((0 : Int), (0 : Int), (0 : Int), (0 : Int), (0 : Int), ()), (0 : Int), (0 : Int), (0 : Int), ()), ()), (0 : Int), ())), ())).bind fun t1 =>
          bif (!t1.1.1) then
            some ((((0 : Int), ([] : List D_Cell), ()), ()), ())
          else
            some (((x0, (List.replicate (Int.toNat x1) (false, ((0 : Int), (((0 : Int), (0 : Int), (0 : Int), (0 : Int), (0 : Int), ()), ((0 : Int), (0 : Int), (0 : Int), (0 : Int), (0 : Int), ()), (0 : Int), (0 : Int), (0 : Int), ()), ()), (0 : Int), ())), ()), ()), ())
      else none
  else
    some ((((0 : Int), ([] : List D_Cell), ()), ()), ())
def spec_l21All (x0 : D_Line) : Option (((List D_Job) × Unit) × Unit) :=
  bif (decide ((((0 : Nat) + (List.length x0.2.2.2.1)) * 32) ≤ (1099511627776 : Nat))) then
    bif (decide ((((List.length x0.2.2.2.1) + (List.length x0.2.2.1)) * 32) ≤ (1099511627776 : Nat))) then
      bif (decide ((((List.length (x0.2.2.2.1 ++ x0.2.2.1)) + (List.length x0.2.1)) * 32) ≤ (1099511627776 : Nat))) then
        some ((((x0.2.2.2.1 ++ x0.2.2.1) ++ x0.2.1), ()), ())
      else none
    else none
  else none
def spec_LineOk_s12 (rec : (Unit × (D_Line × ((List D_Job) × (Int × (Int × Unit))))) → Option ((Unit × (Bool × Unit)) ⊕ (Unit × (D_Line × ((List D_Job) × (Int × Unit)))))) (v : (Unit × (D_Line × ((List D_Job) × (Int × (Int × Unit)))))) : Option ((Unit × (Bool × Unit)) ⊕ (Unit × (D_Line × ((List D_Job) × (Int × Unit))))) :=
  bif (decide (v.2.2.2.2.1 < v.2.2.2.1)) then
    bif ((decide ((0 : Int) ≤ v.2.2.2.2.1)) && (decide (v.2.2.2.2.1 < (((List.length v.2.2.1) : Nat) : Int)))) then
      bif (decide ((Int.toNat v.2.2.2.2.1) < (List.length v.2.2.1))) then
        bif ((decide ((0 : Int) ≤ v.2.2.2.1)) && (decide (v.2.2.2.1 < (((List.length v.2.2.1) : Nat) : Int)))) then
          bif (decide ((Int.toNat v.2.2.2.1) < (List.length v.2.2.1))) then
            bif (decide ((List.getD v.2.2.1 (Int.toNat v.2.2.2.2.1) z_Job).1 = (List.getD v.2.2.1 (Int.toNat v.2.2.2.1) z_Job).1)) then
              some (Sum.inl ((), false, ()))
            else
              rec ((), v.2.1, v.2.2.1, v.2.2.2.1, (IntKind.wrap .i64 (v.2.2.2.2.1 + (1 : Int))), ())
          else none
        else none
      else none
    else none
  else
    some (Sum.inr ((), v.2.1, v.2.2.1, v.2.2.2.1, ()))
def spec_LineOk_s7 (k : Nat) (rec : (Unit × (D_Line × ((List D_Job) × (Int × Unit)))) → Option ((Unit × (Bool × Unit)) ⊕ (Unit × Unit))) (v : (Unit × (D_Line × ((List D_Job) × (Int × Unit))))) : Option ((Unit × (Bool × Unit)) ⊕ (Unit × Unit)) :=
  bif (decide (v.2.2.2.1 < (((List.length v.2.2.1) : Nat) : Int))) then
    bif ((decide ((0 : Int) ≤ v.2.2.2.1)) && (decide (v.2.2.2.1 < (((List.length v.2.2.1) : Nat) : Int)))) then
      bif (decide ((Int.toNat v.2.2.2.1) < (List.length v.2.2.1))) then
        bif (!(decide ((List.getD v.2.2.1 (Int.toNat v.2.2.2.1) z_Job).1 < (0 : Int)))) then
          bif ((decide ((0 : Int) ≤ v.2.2.2.1)) && (decide (v.2.2.2.1 < (((List.length v.2.2.1) : Nat) : Int)))) then
            bif (decide ((Int.toNat v.2.2.2.1) < (List.length v.2.2.1))) then
              bif (decide ((1000000000000 : Int) < (List.getD v.2.2.1 (Int.toNat v.2.2.2.1) z_Job).1)) then
                some (Sum.inl ((), false, ()))
              else
                (iter (spec_LineOk_s12) k ((), v.2.1, v.2.2.1, v.2.2.2.1, (0 : Int), ())).bind fun o2 =>
                  Sum.elim (fun a3 =>
                    some (Sum.inl ((), a3.2)))
                  (fun b4 =>
                    bif ((decide ((0 : Int) ≤ b4.2.2.2.1)) && (decide (b4.2.2.2.1 < (((List.length b4.2.2.1) : Nat) : Int)))) then
                      bif (decide ((Int.toNat b4.2.2.2.1) < (List.length b4.2.2.1))) then
                        bif (decide (b4.2.2.2.1 < (((List.length b4.2.1.2.2.2.1) : Nat) : Int))) then
                          bif (!(!(decide ((List.getD b4.2.2.1 (Int.toNat b4.2.2.2.1) z_Job).2.1.1 = (0 : Int))))) then
                            bif (!(!(decide ((List.getD b4.2.2.1 (Int.toNat b4.2.2.2.1) z_Job).2.1.2.1 = (0 : Int))))) then
                              bif (!(decide ((List.getD b4.2.2.1 (Int.toNat b4.2.2.2.1) z_Job).2.1.2.2.1 < (1 : Int)))) then
                                bif (decide ((1000 : Int) < (List.getD b4.2.2.1 (Int.toNat b4.2.2.2.1) z_Job).2.1.2.2.1)) then
                                  some (Sum.inl ((), false, ()))
                                else
                                  rec ((), b4.2.1, b4.2.2.1, (IntKind.wrap .i64 (b4.2.2.2.1 + (1 : Int))), ())
                              else
                                some (Sum.inl ((), false, ()))
                            else
                              some (Sum.inl ((), false, ()))
                          else
                            some (Sum.inl ((), false, ()))
                        else
                          bif (decide (b4.2.2.2.1 < (IntKind.wrap .i64 ((((List.length b4.2.1.2.2.2.1) : Nat) : Int) + (((List.length b4.2.1.2.2.1) : Nat) : Int))))) then
                            bif (!(!(decide ((List.getD b4.2.2.1 (Int.toNat b4.2.2.2.1) z_Job).2.1.1 = (0 : Int))))) then
                              bif (!(decide ((List.getD b4.2.2.1 (Int.toNat b4.2.2.2.1) z_Job).2.1.2.1 < (1 : Int)))) then
                                bif (!(decide ((1000 : Int) < (List.getD b4.2.2.1 (Int.toNat b4.2.2.2.1) z_Job).2.1.2.1))) then
                                  bif (!(decide ((List.getD b4.2.2.1 (Int.toNat b4.2.2.2.1) z_Job).2.1.2.2.1 < (1 : Int)))) then
                                    bif (decide ((1000 : Int) < (List.getD b4.2.2.1 (Int.toNat b4.2.2.2.1) z_Job).2.1.2.2.1)) then
                                      some (Sum.inl ((), false, ()))
                                    else
                                      rec ((), b4.2.1, b4.2.2.1, (IntKind.wrap .i64 (b4.2.2.2.1 + (1 : Int))), ())
                                  else
                                    some (Sum.inl ((), false, ()))
                                else
                                  some (Sum.inl ((), false, ()))
                              else
                                some (Sum.inl ((), false, ()))
                            else
                              some (Sum.inl ((), false, ()))
                          else
                            bif (!(decide ((List.getD b4.2.2.1 (Int.toNat b4.2.2.2.1) z_Job).2.1.1 < (1 : Int)))) then
                              bif (decide ((1000 : Int) < (List.getD b4.2.2.1 (Int.toNat b4.2.2.2.1) z_Job).2.1.1)) then
                                some (Sum.inl ((), false, ()))
                              else
                                bif (!(decide ((List.getD b4.2.2.1 (Int.toNat b4.2.2.2.1) z_Job).2.1.2.1 < (1 : Int)))) then
                                  bif (!(decide ((1000 : Int) < (List.getD b4.2.2.1 (Int.toNat b4.2.2.2.1) z_Job).2.1.2.1))) then
                                    bif (!(decide ((List.getD b4.2.2.1 (Int.toNat b4.2.2.2.1) z_Job).2.1.2.2.1 < (1 : Int)))) then
                                      bif (decide ((1000 : Int) < (List.getD b4.2.2.1 (Int.toNat b4.2.2.2.1) z_Job).2.1.2.2.1)) then
                                        some (Sum.inl ((), false, ()))
                                      else
                                        rec ((), b4.2.1, b4.2.2.1, (IntKind.wrap .i64 (b4.2.2.2.1 + (1 : Int))), ())
                                    else
                                      some (Sum.inl ((), false, ()))
                                  else
                                    some (Sum.inl ((), false, ()))
                                else
                                  some (Sum.inl ((), false, ()))
                            else
                              some (Sum.inl ((), false, ()))
                      else none
                    else none) o2
            else none
          else none
        else
          some (Sum.inl ((), false, ()))
      else none
    else none
  else
    some (Sum.inr ((), ()))
def spec_LineOk (k : Nat) (x0 : D_Line) : Option ((Bool × Unit) × Unit) :=
  bif (!(decide (x0.1 < (1 : Int)))) then
    bif (!(decide ((16 : Int) < x0.1))) then
      bif (!(decide (x0.1 < (((List.length x0.2.1) : Nat) : Int)))) then
        bif (!(decide (x0.1 < (((List.length x0.2.2.1) : Nat) : Int)))) then
          bif (decide (x0.1 < (((List.length x0.2.2.2.1) : Nat) : Int))) then
            some ((false, ()), ())
          else
            (spec_l21All x0).bind fun t1 =>
              bif (decide (x0.1 < (((List.length t1.1.1) : Nat) : Int))) then
                some ((false, ()), ())
              else
                (iter (spec_LineOk_s7 k) k ((), x0, t1.1.1, (0 : Int), ())).bind fun o2 =>
                  Sum.elim (fun a3 =>
                    some (a3.2, ()))
                  (fun b4 =>
                    some ((true, ()), ())) o2
        else
          some ((false, ()), ())
      else
        some ((false, ()), ())
    else
      some ((false, ()), ())
  else
    some ((false, ()), ())
def spec_LineNew (k : Nat) (x0 : Int) : Option ((D_Line × Unit) × Unit) :=
  (spec_LineOk k (x0, ([] : List D_Job), ([] : List D_Job), ([] : List D_Job), ())).bind fun t1 =>
    bif (!t1.1.1) then
      some ((((0 : Int), ([] : List D_Job), ([] : List D_Job), ([] : List D_Job), ()), ()), ())
    else
      some (((x0, ([] : List D_Job), ([] : List D_Job), ([] : List D_Job), ()), ()), ())
def spec_l13Delta (x0 : Int) : Option ((Bool × Unit) × Unit) :=
  bif (decide ((0 : Int) ≤ x0)) then
    some (((decide (x0 ≤ (10000000 : Int))), ()), ())
  else
    some ((false, ()), ())
def spec_LimitsOk (x0 : D_Limits) : Option ((Bool × Unit) × Unit) :=
  bif (!(decide (x0.1 < (1 : Int)))) then
    bif (!(decide ((64 : Int) < x0.1))) then
      bif (!(decide (x0.2.1 < (1 : Int)))) then
        bif (decide ((100000 : Int) < x0.2.1)) then
          some ((false, ()), ())
        else
          bif (decide ((1 : Int) ≤ x0.2.2.1)) then
            bif (decide (x0.2.2.1 ≤ (1000000 : Int))) then
              bif (decide ((0 : Int) ≤ x0.2.2.2.1)) then
                some (((decide (x0.2.2.2.1 ≤ (100000 : Int))), ()), ())
              else
                some ((false, ()), ())
            else
              some ((false, ()), ())
          else
            some ((false, ()), ())
      else
        some ((false, ()), ())
    else
      some ((false, ()), ())
  else
    some ((false, ()), ())
def spec_ProfOk (x0 : D_Prof) : Option ((Bool × Unit) × Unit) :=
  (spec_l13All x0.1 (0 : Int) (1000 : Int)).bind fun t1 =>
    bif t1.1.1 then
      (spec_l13All x0.2.1 (0 : Int) (1000 : Int)).bind fun t2 =>
        some (t2.1, ())
    else
      some ((false, ()), ())
def spec_ConfOk_s6 (rec : (Unit × (D_Conf × (Int × Unit))) → Option ((Unit × (Bool × Unit)) ⊕ (Unit × Unit))) (v : (Unit × (D_Conf × (Int × Unit)))) : Option ((Unit × (Bool × Unit)) ⊕ (Unit × Unit)) :=
  bif (decide (v.2.2.1 < (7 : Int))) then
    bif ((decide ((0 : Int) ≤ v.2.2.1)) && (decide (v.2.2.1 < (((List.length v.2.1.2.2.2.2.2.2.1) : Nat) : Int)))) then
      bif (decide ((Int.toNat v.2.2.1) < (List.length v.2.1.2.2.2.2.2.2.1))) then
        (spec_ProfOk (List.getD v.2.1.2.2.2.2.2.2.1 (Int.toNat v.2.2.1) z_Prof)).bind fun t5 =>
          bif (!t5.1.1) then
            some (Sum.inl ((), false, ()))
          else
            rec ((), v.2.1, (IntKind.wrap .i64 (v.2.2.1 + (1 : Int))), ())
      else none
    else none
  else
    some (Sum.inr ((), ()))
def spec_ConfOk (k : Nat) (x0 : D_Conf) : Option ((Bool × Unit) × Unit) :=
  (spec_TableNew k x0.1 x0.2.1).bind fun t1 =>
    bif (!(decide ((((List.length t1.1.1.2.1) : Nat) : Int) = (0 : Int)))) then
      (spec_LineNew k x0.2.2.1).bind fun t2 =>
        bif (!(decide (t2.1.1.1 = (0 : Int)))) then
          (spec_l13Delta x0.2.2.2.1).bind fun t3 =>
            bif (!(!t3.1.1)) then
              bif (!(decide (x0.2.2.2.2.1 < (1 : Int)))) then
                bif (decide ((1000 : Int) < x0.2.2.2.2.1)) then
                  some ((false, ()), ())
                else
                  (spec_LimitsOk x0.2.2.2.2.2.1).bind fun t4 =>
                    bif (!(!t4.1.1)) then
                      bif (!(decide ((((List.length x0.2.2.2.2.2.2.1) : Nat) : Int) = (7 : Int)))) then
                        some ((false, ()), ())
                      else
                        (iter (spec_ConfOk_s6) k ((), x0, (0 : Int), ())).bind fun o5 =>
                          Sum.elim (fun a6 =>
                            some (a6.2, ()))
                          (fun b7 =>
                            some ((true, ()), ())) o5
                    else
                      some ((false, ()), ())
              else
                some ((false, ()), ())
            else
              some ((false, ()), ())
        else
          some ((false, ()), ())
    else
      some ((false, ()), ())
def spec_ConfText_s10 (k : Nat) (rec : (Unit × (D_Conf × (ByteArray × (Int × Unit)))) → Option ((Unit × (ByteArray × Unit)))) (v : (Unit × (D_Conf × (ByteArray × (Int × Unit))))) : Option ((Unit × (ByteArray × Unit))) :=
  bif (decide (v.2.2.2.1 < (7 : Int))) then
    bif (decide (((ByteArray.size v.2.2.1) + (ByteArray.size (⟨#[32, 112, 114, 111, 102, 32]⟩ : ByteArray))) ≤ (1099511627776 : Nat))) then
      bif ((decide ((0 : Int) ≤ v.2.2.2.1)) && (decide (v.2.2.2.1 < (((List.length v.2.1.2.2.2.2.2.2.1) : Nat) : Int)))) then
        bif (decide ((Int.toNat v.2.2.2.1) < (List.length v.2.1.2.2.2.2.2.2.1))) then
          (spec_VecText k (List.getD v.2.1.2.2.2.2.2.2.1 (Int.toNat v.2.2.2.1) z_Prof).1).bind fun t11 =>
            bif (decide (((ByteArray.size (v.2.2.1 ++ (⟨#[32, 112, 114, 111, 102, 32]⟩ : ByteArray))) + (ByteArray.size t11.1.1)) ≤ (1099511627776 : Nat))) then
              bif (decide (((ByteArray.size ((v.2.2.1 ++ (⟨#[32, 112, 114, 111, 102, 32]⟩ : ByteArray)) ++ t11.1.1)) + (ByteArray.size (⟨#[32]⟩ : ByteArray))) ≤ (1099511627776 : Nat))) then
                bif ((decide ((0 : Int) ≤ v.2.2.2.1)) && (decide (v.2.2.2.1 < (((List.length v.2.1.2.2.2.2.2.2.1) : Nat) : Int)))) then
                  bif (decide ((Int.toNat v.2.2.2.1) < (List.length v.2.1.2.2.2.2.2.2.1))) then
                    (spec_VecText k (List.getD v.2.1.2.2.2.2.2.2.1 (Int.toNat v.2.2.2.1) z_Prof).2.1).bind fun t12 =>
                      bif (decide (((ByteArray.size (((v.2.2.1 ++ (⟨#[32, 112, 114, 111, 102, 32]⟩ : ByteArray)) ++ t11.1.1) ++ (⟨#[32]⟩ : ByteArray))) + (ByteArray.size t12.1.1)) ≤ (1099511627776 : Nat))) then
                        rec ((), v.2.1, ((((v.2.2.1 ++ (⟨#[32, 112, 114, 111, 102, 32]⟩ : ByteArray)) ++ t11.1.1) ++ (⟨#[32]⟩ : ByteArray)) ++ t12.1.1), (IntKind.wrap .i64 (v.2.2.2.1 + (1 : Int))), ())
                      else none
                  else none
                else none
              else none
            else none
        else none
      else none
    else none
  else
    some ((), v.2.2.1, ())
def spec_ConfText (k : Nat) (x0 : D_Conf) : Option ((ByteArray × Unit) × Unit) :=
  (spec_ConfOk k x0).bind fun t1 =>
    bif (!t1.1.1) then
      some (((⟨#[]⟩ : ByteArray), ()), ())
    else
      (spec_NumText k x0.1).bind fun t2 =>
        bif (decide (((ByteArray.size (⟨#[98, 111, 120, 32, 115, 101, 101, 100, 32]⟩ : ByteArray)) + (ByteArray.size t2.1.1)) ≤ (1099511627776 : Nat))) then
          bif (decide (((ByteArray.size ((⟨#[98, 111, 120, 32, 115, 101, 101, 100, 32]⟩ : ByteArray) ++ t2.1.1)) + (ByteArray.size (⟨#[32, 99, 101, 108, 108, 115, 32]⟩ : ByteArray))) ≤ (1099511627776 : Nat))) then
            (spec_NumText k x0.2.1).bind fun t3 =>
              bif (decide (((ByteArray.size (((⟨#[98, 111, 120, 32, 115, 101, 101, 100, 32]⟩ : ByteArray) ++ t2.1.1) ++ (⟨#[32, 99, 101, 108, 108, 115, 32]⟩ : ByteArray))) + (ByteArray.size t3.1.1)) ≤ (1099511627776 : Nat))) then
                bif (decide (((ByteArray.size ((((⟨#[98, 111, 120, 32, 115, 101, 101, 100, 32]⟩ : ByteArray) ++ t2.1.1) ++ (⟨#[32, 99, 101, 108, 108, 115, 32]⟩ : ByteArray)) ++ t3.1.1)) + (ByteArray.size (⟨#[32, 99, 97, 112, 32]⟩ : ByteArray))) ≤ (1099511627776 : Nat))) then
                  (spec_NumText k x0.2.2.1).bind fun t4 =>
                    bif (decide (((ByteArray.size (((((⟨#[98, 111, 120, 32, 115, 101, 101, 100, 32]⟩ : ByteArray) ++ t2.1.1) ++ (⟨#[32, 99, 101, 108, 108, 115, 32]⟩ : ByteArray)) ++ t3.1.1) ++ (⟨#[32, 99, 97, 112, 32]⟩ : ByteArray))) + (ByteArray.size t4.1.1)) ≤ (1099511627776 : Nat))) then
                      bif (decide (((ByteArray.size ((((((⟨#[98, 111, 120, 32, 115, 101, 101, 100, 32]⟩ : ByteArray) ++ t2.1.1) ++ (⟨#[32, 99, 101, 108, 108, 115, 32]⟩ : ByteArray)) ++ t3.1.1) ++ (⟨#[32, 99, 97, 112, 32]⟩ : ByteArray)) ++ t4.1.1)) + (ByteArray.size (⟨#[32, 100, 101, 108, 116, 97, 32]⟩ : ByteArray))) ≤ (1099511627776 : Nat))) then
                        (spec_NumText k x0.2.2.2.1).bind fun t5 =>
                          bif (decide (((ByteArray.size (((((((⟨#[98, 111, 120, 32, 115, 101, 101, 100, 32]⟩ : ByteArray) ++ t2.1.1) ++ (⟨#[32, 99, 101, 108, 108, 115, 32]⟩ : ByteArray)) ++ t3.1.1) ++ (⟨#[32, 99, 97, 112, 32]⟩ : ByteArray)) ++ t4.1.1) ++ (⟨#[32, 100, 101, 108, 116, 97, 32]⟩ : ByteArray))) + (ByteArray.size t5.1.1)) ≤ (1099511627776 : Nat))) then
                            bif (decide (((ByteArray.size ((((((((⟨#[98, 111, 120, 32, 115, 101, 101, 100, 32]⟩ : ByteArray) ++ t2.1.1) ++ (⟨#[32, 99, 101, 108, 108, 115, 32]⟩ : ByteArray)) ++ t3.1.1) ++ (⟨#[32, 99, 97, 112, 32]⟩ : ByteArray)) ++ t4.1.1) ++ (⟨#[32, 100, 101, 108, 116, 97, 32]⟩ : ByteArray)) ++ t5.1.1)) + (ByteArray.size (⟨#[32, 105, 100, 108, 101, 32]⟩ : ByteArray))) ≤ (1099511627776 : Nat))) then
                              (spec_NumText k x0.2.2.2.2.1).bind fun t6 =>
                                bif (decide (((ByteArray.size (((((((((⟨#[98, 111, 120, 32, 115, 101, 101, 100, 32]⟩ : ByteArray) ++ t2.1.1) ++ (⟨#[32, 99, 101, 108, 108, 115, 32]⟩ : ByteArray)) ++ t3.1.1) ++ (⟨#[32, 99, 97, 112, 32]⟩ : ByteArray)) ++ t4.1.1) ++ (⟨#[32, 100, 101, 108, 116, 97, 32]⟩ : ByteArray)) ++ t5.1.1) ++ (⟨#[32, 105, 100, 108, 101, 32]⟩ : ByteArray))) + (ByteArray.size t6.1.1)) ≤ (1099511627776 : Nat))) then
                                  bif (decide (((ByteArray.size ((((((((((⟨#[98, 111, 120, 32, 115, 101, 101, 100, 32]⟩ : ByteArray) ++ t2.1.1) ++ (⟨#[32, 99, 101, 108, 108, 115, 32]⟩ : ByteArray)) ++ t3.1.1) ++ (⟨#[32, 99, 97, 112, 32]⟩ : ByteArray)) ++ t4.1.1) ++ (⟨#[32, 100, 101, 108, 116, 97, 32]⟩ : ByteArray)) ++ t5.1.1) ++ (⟨#[32, 105, 100, 108, 101, 32]⟩ : ByteArray)) ++ t6.1.1)) + (ByteArray.size (⟨#[32, 108, 97, 110, 101, 32]⟩ : ByteArray))) ≤ (1099511627776 : Nat))) then
                                    (spec_NumText k x0.2.2.2.2.2.1.1).bind fun t7 =>
                                      bif (decide (((ByteArray.size (((((((((((⟨#[98, 111, 120, 32, 115, 101, 101, 100, 32]⟩ : ByteArray) ++ t2.1.1) ++ (⟨#[32, 99, 101, 108, 108, 115, 32]⟩ : ByteArray)) ++ t3.1.1) ++ (⟨#[32, 99, 97, 112, 32]⟩ : ByteArray)) ++ t4.1.1) ++ (⟨#[32, 100, 101, 108, 116, 97, 32]⟩ : ByteArray)) ++ t5.1.1) ++ (⟨#[32, 105, 100, 108, 101, 32]⟩ : ByteArray)) ++ t6.1.1) ++ (⟨#[32, 108, 97, 110, 101, 32]⟩ : ByteArray))) + (ByteArray.size t7.1.1)) ≤ (1099511627776 : Nat))) then
                                        bif (decide (((ByteArray.size ((((((((((((⟨#[98, 111, 120, 32, 115, 101, 101, 100, 32]⟩ : ByteArray) ++ t2.1.1) ++ (⟨#[32, 99, 101, 108, 108, 115, 32]⟩ : ByteArray)) ++ t3.1.1) ++ (⟨#[32, 99, 97, 112, 32]⟩ : ByteArray)) ++ t4.1.1) ++ (⟨#[32, 100, 101, 108, 116, 97, 32]⟩ : ByteArray)) ++ t5.1.1) ++ (⟨#[32, 105, 100, 108, 101, 32]⟩ : ByteArray)) ++ t6.1.1) ++ (⟨#[32, 108, 97, 110, 101, 32]⟩ : ByteArray)) ++ t7.1.1)) + (ByteArray.size (⟨#[32]⟩ : ByteArray))) ≤ (1099511627776 : Nat))) then
                                          (spec_NumText k x0.2.2.2.2.2.1.2.1).bind fun t8 =>
                                            bif (decide (((ByteArray.size (((((((((((((⟨#[98, 111, 120, 32, 115, 101, 101, 100, 32]⟩ : ByteArray) ++ t2.1.1) ++ (⟨#[32, 99, 101, 108, 108, 115, 32]⟩ : ByteArray)) ++ t3.1.1) ++ (⟨#[32, 99, 97, 112, 32]⟩ : ByteArray)) ++ t4.1.1) ++ (⟨#[32, 100, 101, 108, 116, 97, 32]⟩ : ByteArray)) ++ t5.1.1) ++ (⟨#[32, 105, 100, 108, 101, 32]⟩ : ByteArray)) ++ t6.1.1) ++ (⟨#[32, 108, 97, 110, 101, 32]⟩ : ByteArray)) ++ t7.1.1) ++ (⟨#[32]⟩ : ByteArray))) + (ByteArray.size t8.1.1)) ≤ (1099511627776 : Nat))) then
                                              bif (decide (((ByteArray.size ((((((((((((((⟨#[98, 111, 120, 32, 115, 101, 101, 100, 32]⟩ : ByteArray) ++ t2.1.1) ++ (⟨#[32, 99, 101, 108, 108, 115, 32]⟩ : ByteArray)) ++ t3.1.1) ++ (⟨#[32, 99, 97, 112, 32]⟩ : ByteArray)) ++ t4.1.1) ++ (⟨#[32, 100, 101, 108, 116, 97, 32]⟩ : ByteArray)) ++ t5.1.1) ++ (⟨#[32, 105, 100, 108, 101, 32]⟩ : ByteArray)) ++ t6.1.1) ++ (⟨#[32, 108, 97, 110, 101, 32]⟩ : ByteArray)) ++ t7.1.1) ++ (⟨#[32]⟩ : ByteArray)) ++ t8.1.1)) + (ByteArray.size (⟨#[32, 97, 108, 108, 32]⟩ : ByteArray))) ≤ (1099511627776 : Nat))) then
                                                (spec_NumText k x0.2.2.2.2.2.1.2.2.1).bind fun t9 =>
                                                  bif (decide (((ByteArray.size (((((((((((((((⟨#[98, 111, 120, 32, 115, 101, 101, 100, 32]⟩ : ByteArray) ++ t2.1.1) ++ (⟨#[32, 99, 101, 108, 108, 115, 32]⟩ : ByteArray)) ++ t3.1.1) ++ (⟨#[32, 99, 97, 112, 32]⟩ : ByteArray)) ++ t4.1.1) ++ (⟨#[32, 100, 101, 108, 116, 97, 32]⟩ : ByteArray)) ++ t5.1.1) ++ (⟨#[32, 105, 100, 108, 101, 32]⟩ : ByteArray)) ++ t6.1.1) ++ (⟨#[32, 108, 97, 110, 101, 32]⟩ : ByteArray)) ++ t7.1.1) ++ (⟨#[32]⟩ : ByteArray)) ++ t8.1.1) ++ (⟨#[32, 97, 108, 108, 32]⟩ : ByteArray))) + (ByteArray.size t9.1.1)) ≤ (1099511627776 : Nat))) then
                                                    bif (decide (((ByteArray.size ((((((((((((((((⟨#[98, 111, 120, 32, 115, 101, 101, 100, 32]⟩ : ByteArray) ++ t2.1.1) ++ (⟨#[32, 99, 101, 108, 108, 115, 32]⟩ : ByteArray)) ++ t3.1.1) ++ (⟨#[32, 99, 97, 112, 32]⟩ : ByteArray)) ++ t4.1.1) ++ (⟨#[32, 100, 101, 108, 116, 97, 32]⟩ : ByteArray)) ++ t5.1.1) ++ (⟨#[32, 105, 100, 108, 101, 32]⟩ : ByteArray)) ++ t6.1.1) ++ (⟨#[32, 108, 97, 110, 101, 32]⟩ : ByteArray)) ++ t7.1.1) ++ (⟨#[32]⟩ : ByteArray)) ++ t8.1.1) ++ (⟨#[32, 97, 108, 108, 32]⟩ : ByteArray)) ++ t9.1.1)) + (ByteArray.size (⟨#[32, 109, 97, 114, 107, 32]⟩ : ByteArray))) ≤ (1099511627776 : Nat))) then
                                                      (spec_NumText k x0.2.2.2.2.2.1.2.2.2.1).bind fun t10 =>
                                                        bif (decide (((ByteArray.size (((((((((((((((((⟨#[98, 111, 120, 32, 115, 101, 101, 100, 32]⟩ : ByteArray) ++ t2.1.1) ++ (⟨#[32, 99, 101, 108, 108, 115, 32]⟩ : ByteArray)) ++ t3.1.1) ++ (⟨#[32, 99, 97, 112, 32]⟩ : ByteArray)) ++ t4.1.1) ++ (⟨#[32, 100, 101, 108, 116, 97, 32]⟩ : ByteArray)) ++ t5.1.1) ++ (⟨#[32, 105, 100, 108, 101, 32]⟩ : ByteArray)) ++ t6.1.1) ++ (⟨#[32, 108, 97, 110, 101, 32]⟩ : ByteArray)) ++ t7.1.1) ++ (⟨#[32]⟩ : ByteArray)) ++ t8.1.1) ++ (⟨#[32, 97, 108, 108, 32]⟩ : ByteArray)) ++ t9.1.1) ++ (⟨#[32, 109, 97, 114, 107, 32]⟩ : ByteArray))) + (ByteArray.size t10.1.1)) ≤ (1099511627776 : Nat))) then
                                                          bif x0.2.2.2.2.2.1.2.2.2.2.1 then
                                                            bif (decide (((ByteArray.size ((((((((((((((((((⟨#[98, 111, 120, 32, 115, 101, 101, 100, 32]⟩ : ByteArray) ++ t2.1.1) ++ (⟨#[32, 99, 101, 108, 108, 115, 32]⟩ : ByteArray)) ++ t3.1.1) ++ (⟨#[32, 99, 97, 112, 32]⟩ : ByteArray)) ++ t4.1.1) ++ (⟨#[32, 100, 101, 108, 116, 97, 32]⟩ : ByteArray)) ++ t5.1.1) ++ (⟨#[32, 105, 100, 108, 101, 32]⟩ : ByteArray)) ++ t6.1.1) ++ (⟨#[32, 108, 97, 110, 101, 32]⟩ : ByteArray)) ++ t7.1.1) ++ (⟨#[32]⟩ : ByteArray)) ++ t8.1.1) ++ (⟨#[32, 97, 108, 108, 32]⟩ : ByteArray)) ++ t9.1.1) ++ (⟨#[32, 109, 97, 114, 107, 32]⟩ : ByteArray)) ++ t10.1.1)) + (ByteArray.size (⟨#[32, 108, 111, 110, 103, 101, 115, 116]⟩ : ByteArray))) ≤ (1099511627776 : Nat))) then
                                                              (iter (spec_ConfText_s10 k) k ((), x0, (((((((((((((((((((⟨#[98, 111, 120, 32, 115, 101, 101, 100, 32]⟩ : ByteArray) ++ t2.1.1) ++ (⟨#[32, 99, 101, 108, 108, 115, 32]⟩ : ByteArray)) ++ t3.1.1) ++ (⟨#[32, 99, 97, 112, 32]⟩ : ByteArray)) ++ t4.1.1) ++ (⟨#[32, 100, 101, 108, 116, 97, 32]⟩ : ByteArray)) ++ t5.1.1) ++ (⟨#[32, 105, 100, 108, 101, 32]⟩ : ByteArray)) ++ t6.1.1) ++ (⟨#[32, 108, 97, 110, 101, 32]⟩ : ByteArray)) ++ t7.1.1) ++ (⟨#[32]⟩ : ByteArray)) ++ t8.1.1) ++ (⟨#[32, 97, 108, 108, 32]⟩ : ByteArray)) ++ t9.1.1) ++ (⟨#[32, 109, 97, 114, 107, 32]⟩ : ByteArray)) ++ t10.1.1) ++ (⟨#[32, 108, 111, 110, 103, 101, 115, 116]⟩ : ByteArray)), (0 : Int), ())).bind fun o11 =>
                                                                some (o11.2, ())
                                                            else none
                                                          else
                                                            bif (decide (((ByteArray.size ((((((((((((((((((⟨#[98, 111, 120, 32, 115, 101, 101, 100, 32]⟩ : ByteArray) ++ t2.1.1) ++ (⟨#[32, 99, 101, 108, 108, 115, 32]⟩ : ByteArray)) ++ t3.1.1) ++ (⟨#[32, 99, 97, 112, 32]⟩ : ByteArray)) ++ t4.1.1) ++ (⟨#[32, 100, 101, 108, 116, 97, 32]⟩ : ByteArray)) ++ t5.1.1) ++ (⟨#[32, 105, 100, 108, 101, 32]⟩ : ByteArray)) ++ t6.1.1) ++ (⟨#[32, 108, 97, 110, 101, 32]⟩ : ByteArray)) ++ t7.1.1) ++ (⟨#[32]⟩ : ByteArray)) ++ t8.1.1) ++ (⟨#[32, 97, 108, 108, 32]⟩ : ByteArray)) ++ t9.1.1) ++ (⟨#[32, 109, 97, 114, 107, 32]⟩ : ByteArray)) ++ t10.1.1)) + (ByteArray.size (⟨#[32, 116, 97, 105, 108]⟩ : ByteArray))) ≤ (1099511627776 : Nat))) then
                                                              (iter (spec_ConfText_s10 k) k ((), x0, (((((((((((((((((((⟨#[98, 111, 120, 32, 115, 101, 101, 100, 32]⟩ : ByteArray) ++ t2.1.1) ++ (⟨#[32, 99, 101, 108, 108, 115, 32]⟩ : ByteArray)) ++ t3.1.1) ++ (⟨#[32, 99, 97, 112, 32]⟩ : ByteArray)) ++ t4.1.1) ++ (⟨#[32, 100, 101, 108, 116, 97, 32]⟩ : ByteArray)) ++ t5.1.1) ++ (⟨#[32, 105, 100, 108, 101, 32]⟩ : ByteArray)) ++ t6.1.1) ++ (⟨#[32, 108, 97, 110, 101, 32]⟩ : ByteArray)) ++ t7.1.1) ++ (⟨#[32]⟩ : ByteArray)) ++ t8.1.1) ++ (⟨#[32, 97, 108, 108, 32]⟩ : ByteArray)) ++ t9.1.1) ++ (⟨#[32, 109, 97, 114, 107, 32]⟩ : ByteArray)) ++ t10.1.1) ++ (⟨#[32, 116, 97, 105, 108]⟩ : ByteArray)), (0 : Int), ())).bind fun o12 =>
                                                                some (o12.2, ())
                                                            else none
                                                        else none
                                                    else none
                                                  else none
                                              else none
                                            else none
                                        else none
                                      else none
                                  else none
                                else none
                            else none
                          else none
                      else none
                    else none
                else none
              else none
          else none
        else none
def impl_isCells (x0 : Int) : Option ((Bool × Unit) × Unit) :=
  bif (!(decide (x0 = (4 : Int)))) then
    bif (!(decide (x0 = (8 : Int)))) then
      bif (!(decide (x0 = (16 : Int)))) then
        bif (!(decide (x0 = (32 : Int)))) then
          some (((decide (x0 = (64 : Int))), ()), ())
        else
          some ((true, ()), ())
      else
        some ((true, ()), ())
    else
      some ((true, ()), ())
  else
    some ((true, ()), ())
def impl_isDelta (x0 : Int) : Option ((Bool × Unit) × Unit) :=
  (impl_within x0 (0 : Int) (10000000 : Int)).bind fun t1 =>
    some (t1.1, ())
def impl_LimitsOk (x0 : D_Limits) : Option ((Bool × Unit) × Unit) :=
  (impl_within x0.1 (1 : Int) (64 : Int)).bind fun t1 =>
    bif t1.1.1 then
      (impl_within x0.2.1 (1 : Int) (100000 : Int)).bind fun t2 =>
        bif t2.1.1 then
          (impl_within x0.2.2.1 (1 : Int) (1000000 : Int)).bind fun t3 =>
            bif t3.1.1 then
              (impl_within x0.2.2.2.1 (0 : Int) (100000 : Int)).bind fun t4 =>
                some (t4.1, ())
            else
              some ((false, ()), ())
        else
          some ((false, ()), ())
    else
      some ((false, ()), ())
def impl_ProfOk (x0 : D_Prof) : Option ((Bool × Unit) × Unit) :=
  (impl_Vec_isFrom x0.1 (0 : Int) (1000 : Int)).bind fun t1 =>
    bif t1.1.1 then
      (impl_Vec_isFrom x0.2.1 (0 : Int) (1000 : Int)).bind fun t2 =>
        some (t2.1, ())
    else
      some ((false, ()), ())
def impl_areProfs_1 (x0 : D_Prof) : Option ((Bool × Unit) × Unit) :=
  (impl_ProfOk x0).bind fun t1 =>
    some (((!t1.1.1), ()), ())
def slices_IndexFunc_impl_Prof_impl_Prof_s2 (rec : (Unit × ((List D_Prof) × (Unit × (Int × (Int × Unit))))) → Option ((Unit × (Int × Unit)) ⊕ (Unit × Unit))) (v : (Unit × ((List D_Prof) × (Unit × (Int × (Int × Unit)))))) : Option ((Unit × (Int × Unit)) ⊕ (Unit × Unit)) :=
  bif (decide (v.2.2.2.2.1 < v.2.2.2.1)) then
    bif ((decide ((0 : Int) ≤ v.2.2.2.2.1)) && (decide (v.2.2.2.2.1 < (((List.length v.2.1) : Nat) : Int)))) then
      bif (decide ((Int.toNat v.2.2.2.2.1) < (List.length v.2.1))) then
        (impl_areProfs_1 (List.getD v.2.1 (Int.toNat v.2.2.2.2.1) z_Prof)).bind fun t1 =>
          bif t1.1.1 then
            some (Sum.inl ((), v.2.2.2.2))
          else
            rec ((), v.2.1, (), v.2.2.2.1, (IntKind.wrap .i64 (v.2.2.2.2.1 + (1 : Int))), ())
      else none
    else none
  else
    some (Sum.inr ((), ()))
def slices_IndexFunc_impl_Prof_impl_Prof (k : Nat) (x0 : (List D_Prof)) (x1 : Unit) : Option ((Int × Unit) × Unit) :=
  (iter (slices_IndexFunc_impl_Prof_impl_Prof_s2) k ((), x0, (), (((List.length x0) : Nat) : Int), (0 : Int), ())).bind fun o1 =>
    Sum.elim (fun a2 =>
      some (a2.2, ()))
    (fun b3 =>
      some (((-1 : Int), ()), ())) o1
def slices_ContainsFunc_impl_Prof_impl_Prof (k : Nat) (x0 : (List D_Prof)) (x1 : Unit) : Option ((Bool × Unit) × Unit) :=
  (slices_IndexFunc_impl_Prof_impl_Prof k x0 ()).bind fun t1 =>
    some (((decide ((0 : Int) ≤ t1.1.1)), ()), ())
def impl_areProfs (k : Nat) (x0 : (List D_Prof)) : Option ((Bool × Unit) × Unit) :=
  bif (decide ((((List.length x0) : Nat) : Int) = (7 : Int))) then
    (slices_ContainsFunc_impl_Prof_impl_Prof k x0 ()).bind fun t1 =>
      some (((!t1.1.1), ()), ())
  else
    some ((false, ()), ())
def impl_ConfOk (k : Nat) (x0 : D_Conf) : Option ((Bool × Unit) × Unit) :=
  (impl_within x0.1 (0 : Int) (4294967295 : Int)).bind fun t1 =>
    bif t1.1.1 then
      (impl_isCells x0.2.1).bind fun t2 =>
        bif t2.1.1 then
          (impl_within x0.2.2.1 (1 : Int) (16 : Int)).bind fun t3 =>
            bif t3.1.1 then
              (impl_isDelta x0.2.2.2.1).bind fun t4 =>
                bif t4.1.1 then
                  (impl_within x0.2.2.2.2.1 (1 : Int) (1000 : Int)).bind fun t5 =>
                    bif t5.1.1 then
                      (impl_LimitsOk x0.2.2.2.2.2.1).bind fun t6 =>
                        bif t6.1.1 then
                          (impl_areProfs k x0.2.2.2.2.2.2.1).bind fun t7 =>
                            some (t7.1, ())
                        else
                          some ((false, ()), ())
                    else
                      some ((false, ()), ())
                else
                  some ((false, ()), ())
            else
              some ((false, ()), ())
        else
          some ((false, ()), ())
    else
      some ((false, ()), ())
def impl_ConfText_s8 (rec : (Unit × ((List ByteArray) × ((List D_Prof) × (Int × (Int × Unit))))) → Option ((Unit × ((List ByteArray) × Unit)))) (v : (Unit × ((List ByteArray) × ((List D_Prof) × (Int × (Int × Unit)))))) : Option ((Unit × ((List ByteArray) × Unit))) :=
  bif (decide (v.2.2.2.2.1 < v.2.2.2.1)) then
    bif ((decide ((0 : Int) ≤ v.2.2.2.2.1)) && (decide (v.2.2.2.2.1 < (((List.length v.2.2.1) : Nat) : Int)))) then
      bif (decide ((Int.toNat v.2.2.2.2.1) < (List.length v.2.2.1))) then
        (impl_VecText (List.getD v.2.2.1 (Int.toNat v.2.2.2.2.1) z_Prof).1).bind fun t12 =>
          (impl_VecText (List.getD v.2.2.1 (Int.toNat v.2.2.2.2.1) z_Prof).2.1).bind fun t13 =>
            bif (decide ((((List.length v.2.1) + (3 : Nat)) * 16) ≤ (1099511627776 : Nat))) then
              rec ((), (v.2.1 ++ ([(⟨#[112, 114, 111, 102]⟩ : ByteArray), t12.1.1, t13.1.1] : List ByteArray)), v.2.2.1, v.2.2.2.1, (IntKind.wrap .i64 (v.2.2.2.2.1 + (1 : Int))), ())
            else none
      else none
    else none
  else
    some ((), v.2.1, ())
def impl_ConfText (k : Nat) (x0 : D_Conf) : Option ((ByteArray × Unit) × Unit) :=
  (impl_ConfOk k x0).bind fun t1 =>
    bif (!t1.1.1) then
      some (((⟨#[]⟩ : ByteArray), ()), ())
    else
      (impl_NumText x0.1).bind fun t2 =>
        (impl_NumText x0.2.1).bind fun t3 =>
          (impl_NumText x0.2.2.1).bind fun t4 =>
            (impl_NumText x0.2.2.2.1).bind fun t5 =>
              (impl_NumText x0.2.2.2.2.1).bind fun t6 =>
                (impl_NumText x0.2.2.2.2.2.1.1).bind fun t7 =>
                  (impl_NumText x0.2.2.2.2.2.1.2.1).bind fun t8 =>
                    (impl_NumText x0.2.2.2.2.2.1.2.2.1).bind fun t9 =>
                      (impl_NumText x0.2.2.2.2.2.1.2.2.2.1).bind fun t10 =>
                        bif x0.2.2.2.2.2.1.2.2.2.2.1 then
                          let y11 : (List ByteArray) := ([(⟨#[98, 111, 120]⟩ : ByteArray), (⟨#[115, 101, 101, 100]⟩ : ByteArray), t2.1.1, (⟨#[99, 101, 108, 108, 115]⟩ : ByteArray), t3.1.1, (⟨#[99, 97, 112]⟩ : ByteArray), t4.1.1, (⟨#[100, 101, 108, 116, 97]⟩ : ByteArray), t5.1.1, (⟨#[105, 100, 108, 101]⟩ : ByteArray), t6.1.1, (⟨#[108, 97, 110, 101]⟩ : ByteArray), t7.1.1, t8.1.1, (⟨#[97, 108, 108]⟩ : ByteArray), t9.1.1, (⟨#[109, 97, 114, 107]⟩ : ByteArray), t10.1.1, (⟨#[108, 111, 110, 103, 101, 115, 116]⟩ : ByteArray)] : List ByteArray)
                          (iter (impl_ConfText_s8) k ((), y11, x0.2.2.2.2.2.2.1, (((List.length x0.2.2.2.2.2.2.1) : Nat) : Int), (0 : Int), ())).bind fun o12 =>
                            (joinC o12.2.1 (⟨#[32]⟩ : ByteArray)).bind fun t13 =>
                              some (t13.1, ())
                        else
                          (iter (impl_ConfText_s8) k ((), ([(⟨#[98, 111, 120]⟩ : ByteArray), (⟨#[115, 101, 101, 100]⟩ : ByteArray), t2.1.1, (⟨#[99, 101, 108, 108, 115]⟩ : ByteArray), t3.1.1, (⟨#[99, 97, 112]⟩ : ByteArray), t4.1.1, (⟨#[100, 101, 108, 116, 97]⟩ : ByteArray), t5.1.1, (⟨#[105, 100, 108, 101]⟩ : ByteArray), t6.1.1, (⟨#[108, 97, 110, 101]⟩ : ByteArray), t7.1.1, t8.1.1, (⟨#[97, 108, 108]⟩ : ByteArray), t9.1.1, (⟨#[109, 97, 114, 107]⟩ : ByteArray), t10.1.1, (⟨#[116, 97, 105, 108]⟩ : ByteArray)] : List ByteArray), x0.2.2.2.2.2.2.1, (((List.length x0.2.2.2.2.2.2.1) : Nat) : Int), (0 : Int), ())).bind fun o14 =>
                            (joinC o14.2.1 (⟨#[32]⟩ : ByteArray)).bind fun t15 =>
                              some (t15.1, ())
def laws_eqLimits (x0 : D_Limits) (x1 : D_Limits) : Option ((Bool × Unit) × Unit) :=
  bif (!(decide (x0.1 = x1.1))) then
    some ((false, ()), ())
  else
    bif (!(decide (x0.2.1 = x1.2.1))) then
      some ((false, ()), ())
    else
      bif (!(decide (x0.2.2.1 = x1.2.2.1))) then
        some ((false, ()), ())
      else
        bif (!(decide (x0.2.2.2.1 = x1.2.2.2.1))) then
          some ((false, ()), ())
        else
          bif (!(x0.2.2.2.2.1 == x1.2.2.2.2.1)) then
            some ((false, ()), ())
          else
            some ((true, ()), ())
def laws_eqProf (x0 : D_Prof) (x1 : D_Prof) : Option ((Bool × Unit) × Unit) :=
  (laws_eqVec x0.1 x1.1).bind fun t1 =>
    bif (!t1.1.1) then
      some ((false, ()), ())
    else
      (laws_eqVec x0.2.1 x1.2.1).bind fun t2 =>
        bif (!t2.1.1) then
          some ((false, ()), ())
        else
          some ((true, ()), ())
def laws_eqProfS_s4 (rec : (Unit × ((List D_Prof) × ((List D_Prof) × (Int × Unit)))) → Option ((Unit × (Bool × Unit)) ⊕ (Unit × Unit))) (v : (Unit × ((List D_Prof) × ((List D_Prof) × (Int × Unit))))) : Option ((Unit × (Bool × Unit)) ⊕ (Unit × Unit)) :=
  bif (decide (v.2.2.2.1 < (((List.length v.2.1) : Nat) : Int))) then
    bif ((decide ((0 : Int) ≤ v.2.2.2.1)) && (decide (v.2.2.2.1 < (((List.length v.2.1) : Nat) : Int)))) then
      bif (decide ((Int.toNat v.2.2.2.1) < (List.length v.2.1))) then
        bif ((decide ((0 : Int) ≤ v.2.2.2.1)) && (decide (v.2.2.2.1 < (((List.length v.2.2.1) : Nat) : Int)))) then
          bif (decide ((Int.toNat v.2.2.2.1) < (List.length v.2.2.1))) then
            (laws_eqProf (List.getD v.2.1 (Int.toNat v.2.2.2.1) z_Prof) (List.getD v.2.2.1 (Int.toNat v.2.2.2.1) z_Prof)).bind fun t1 =>
              bif (!t1.1.1) then
                some (Sum.inl ((), false, ()))
              else
                rec ((), v.2.1, v.2.2.1, (IntKind.wrap .i64 (v.2.2.2.1 + (1 : Int))), ())
          else none
        else none
      else none
    else none
  else
    some (Sum.inr ((), ()))
def laws_eqProfS (k : Nat) (x0 : (List D_Prof)) (x1 : (List D_Prof)) : Option ((Bool × Unit) × Unit) :=
  bif (!(decide ((((List.length x0) : Nat) : Int) = (((List.length x1) : Nat) : Int)))) then
    some ((false, ()), ())
  else
    (iter (laws_eqProfS_s4) k ((), x0, x1, (0 : Int), ())).bind fun o1 =>
      Sum.elim (fun a2 =>
        some (a2.2, ()))
      (fun b3 =>
        some ((true, ()), ())) o1
def laws_eqConf (k : Nat) (x0 : D_Conf) (x1 : D_Conf) : Option ((Bool × Unit) × Unit) :=
  bif (!(decide (x0.1 = x1.1))) then
    some ((false, ()), ())
  else
    bif (!(decide (x0.2.1 = x1.2.1))) then
      some ((false, ()), ())
    else
      bif (!(decide (x0.2.2.1 = x1.2.2.1))) then
        some ((false, ()), ())
      else
        bif (!(decide (x0.2.2.2.1 = x1.2.2.2.1))) then
          some ((false, ()), ())
        else
          bif (!(decide (x0.2.2.2.2.1 = x1.2.2.2.2.1))) then
            some ((false, ()), ())
          else
            (laws_eqLimits x0.2.2.2.2.2.1 x1.2.2.2.2.2.1).bind fun t1 =>
              bif (!t1.1.1) then
                some ((false, ()), ())
              else
                (laws_eqProfS k x0.2.2.2.2.2.2.1 x1.2.2.2.2.2.2.1).bind fun t2 =>
                  bif (!t2.1.1) then
                    some ((false, ()), ())
                  else
                    some ((true, ()), ())
def laws_FnExactConfText (k : Nat) (x0 : D_Conf) : Option ((Bool × Unit) × Unit) :=
  (laws_szConf x0 (1048576 : Int)).bind fun t1 =>
    bif (decide (t1.1.1 < (0 : Int))) then
      some ((true, ()), ())
    else
      (laws_toConf k x0).bind fun t2 =>
        (spec_ConfText k t2.1.1).bind fun t3 =>
          (laws_toConf k x0).bind fun t4 =>
            (impl_ConfText k t4.1.1).bind fun t5 =>
              bif (!(decide (t5.1.1.data.toList = t3.1.1.data.toList))) then
                some ((false, ()), ())
              else
                (laws_toConf k x0).bind fun t6 =>
                  (laws_eqConf k t4.1.1 t6.1.1).bind fun t7 =>
                    bif (!t7.1.1) then
                      some ((false, ()), ())
                    else
                      some ((true, ()), ())
end Go.Tw
