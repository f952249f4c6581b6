/- The mirrors of the functions as plain definitions, by which proofs go on. -/
import Derived.Test.YtaigepmndpefgaaPe6
set_option linter.all false
namespace Go.Tw
open Go Go.RowKit
abbrev T_Out : Ty := (.pr (.int .i64) (.pr (.int .i64) (.pr (.int .i64) (.pr (.sl (.int .u8)) (.pr (.sl (.int .i64)) .un)))))
abbrev D_Out := (Int × (Int × (Int × ((List Int) × ((List Int) × Unit)))))
def z_Out : D_Out := ((0 : Int), ((0 : Int), ((0 : Int), ([], ([], ())))))
abbrev T_Left : Ty := (.pr (.int .i64) (.pr (.sl (.int .i64)) (.pr (.sl (.int .i64)) (.pr (.int .i64) (.pr (.int .i64) .un)))))
abbrev D_Left := (Int × ((List Int) × ((List Int) × (Int × (Int × Unit)))))
def z_Left : D_Left := ((0 : Int), ([], ([], ((0 : Int), ((0 : Int), ())))))
def laws_szByteS (x0 : (List Int)) (x1 : Int) : Option ((Int × Unit) × Unit) :=
  bif (decide ((IntKind.wrap .i64 (x1 - (((List.length x0) : Nat) : Int))) < (0 : Int))) then
    some (((-1 : Int), ()), ())
  else
    some (((IntKind.wrap .i64 (x1 - (((List.length x0) : Nat) : Int))), ()), ())
def laws_szIntS (x0 : (List Int)) (x1 : Int) : Option ((Int × Unit) × Unit) :=
  bif (decide ((IntKind.wrap .i64 (x1 - (((List.length x0) : Nat) : Int))) < (0 : Int))) then
    some (((-1 : Int), ()), ())
  else
    some (((IntKind.wrap .i64 (x1 - (((List.length x0) : Nat) : Int))), ()), ())
def laws_szOut (x0 : D_Out) (x1 : Int) : Option ((Int × Unit) × Unit) :=
  (laws_szByteS x0.2.2.2.1 x1).bind fun t1 =>
    bif (decide (t1.1.1 < (0 : Int))) then
      some (((-1 : Int), ()), ())
    else
      (laws_szIntS x0.2.2.2.2.1 t1.1.1).bind fun t2 =>
        bif (decide (t2.1.1 < (0 : Int))) then
          some (((-1 : Int), ()), ())
        else
          some (t2.1, ())
def laws_szOutS_s5 (rec : (Unit × ((List D_Out) × (Int × (Int × Unit)))) → Option ((Unit × (Int × Unit)) ⊕ (Unit × (Int × Unit)))) (v : (Unit × ((List D_Out) × (Int × (Int × Unit))))) : Option ((Unit × (Int × Unit)) ⊕ (Unit × (Int × Unit))) :=
  bif (decide (v.2.2.2.1 < (((List.length v.2.1) : Nat) : Int))) then
    bif ((decide ((0 : Int) ≤ v.2.2.2.1)) && (decide (v.2.2.2.1 < (((List.length v.2.1) : Nat) : Int)))) then
      bif (decide ((Int.toNat v.2.2.2.1) < (List.length v.2.1))) then
        (laws_szOut (List.getD v.2.1 (Int.toNat v.2.2.2.1) z_Out) v.2.2.1).bind fun t1 =>
          bif (decide (t1.1.1 < (0 : Int))) then
            some (Sum.inl ((), (-1 : Int), ()))
          else
            rec ((), v.2.1, t1.1.1, (IntKind.wrap .i64 (v.2.2.2.1 + (1 : Int))), ())
      else none
    else none
  else
    some (Sum.inr ((), v.2.2.1, ()))
def laws_szOutS (k : Nat) (x0 : (List D_Out)) (x1 : Int) : Option ((Int × Unit) × Unit) :=
  bif (decide ((IntKind.wrap .i64 (x1 - (((List.length x0) : Nat) : Int))) < (0 : Int))) then
    some (((-1 : Int), ()), ())
  else
    (iter (laws_szOutS_s5) k ((), x0, (IntKind.wrap .i64 (x1 - (((List.length x0) : Nat) : Int))), (0 : Int), ())).bind fun o1 =>
      Sum.elim (fun a2 =>
        some (a2.2, ()))
      (fun b3 =>
        some (b3.2, ())) o1
def laws_szLeft (x0 : D_Left) (x1 : Int) : Option ((Int × Unit) × Unit) :=
  (laws_szIntS x0.2.1 x1).bind fun t1 =>
    bif (decide (t1.1.1 < (0 : Int))) then
      some (((-1 : Int), ()), ())
    else
      (laws_szIntS x0.2.2.1 t1.1.1).bind fun t2 =>
        bif (decide (t2.1.1 < (0 : Int))) then
          some (((-1 : Int), ()), ())
        else
          some (t2.1, ())
def laws_toByteS_s3 (rec : (Unit × ((List Int) × ((List Int) × (Int × Unit)))) → Option ((Unit × ((List Int) × Unit)))) (v : (Unit × ((List Int) × ((List Int) × (Int × Unit))))) : Option ((Unit × ((List Int) × Unit))) :=
  bif (decide (v.2.2.2.1 < (((List.length v.2.1) : Nat) : Int))) then
    bif ((decide ((0 : Int) ≤ v.2.2.2.1)) && (decide (v.2.2.2.1 < (((List.length v.2.1) : Nat) : Int)))) then
      bif (decide ((Int.toNat v.2.2.2.1) < (List.length v.2.1))) then
        bif ((decide ((0 : Int) ≤ v.2.2.2.1)) && (decide (v.2.2.2.1 < (((List.length v.2.2.1) : Nat) : Int)))) then
          bif (decide ((Int.toNat v.2.2.2.1) < (List.length v.2.2.1))) then
            let y1 : (List Int) := (List.set v.2.2.1 (Int.toNat v.2.2.2.1) (List.getD v.2.1 (Int.toNat v.2.2.2.1) (0 : Int)))
            rec ((), v.2.1, y1, (IntKind.wrap .i64 (v.2.2.2.1 + (1 : Int))), ())
          else none
        else none
      else none
    else none
  else
    some ((), v.2.2.1, ())
def laws_toByteS (k : Nat) (x0 : (List Int)) : Option (((List Int) × Unit) × Unit) :=
  bif (((decide ((0 : Int) ≤ (((List.length x0) : Nat) : Int))) && (decide ((((List.length x0) : Nat) : Int) ≤ (((List.length x0) : Nat) : Int)))) && (decide (((1 : Int) * (((List.length x0) : Nat) : Int)) ≤ (1099511627776 : Int)))) then
    (iter (laws_toByteS_s3) k ((), x0, (List.replicate (List.length x0) (0 : Int)), (0 : Int), ())).bind fun o1 =>
      some (o1.2, ())
  else none
def laws_toIntS_s3 (rec : (Unit × ((List Int) × ((List Int) × (Int × Unit)))) → Option ((Unit × ((List Int) × Unit)))) (v : (Unit × ((List Int) × ((List Int) × (Int × Unit))))) : Option ((Unit × ((List Int) × Unit))) :=
  bif (decide (v.2.2.2.1 < (((List.length v.2.1) : Nat) : Int))) then
    bif ((decide ((0 : Int) ≤ v.2.2.2.1)) && (decide (v.2.2.2.1 < (((List.length v.2.1) : Nat) : Int)))) then
      bif (decide ((Int.toNat v.2.2.2.1) < (List.length v.2.1))) then
        bif ((decide ((0 : Int) ≤ v.2.2.2.1)) && (decide (v.2.2.2.1 < (((List.length v.2.2.1) : Nat) : Int)))) then
          bif (decide ((Int.toNat v.2.2.2.1) < (List.length v.2.2.1))) then
            let y1 : (List Int) := (List.set v.2.2.1 (Int.toNat v.2.2.2.1) (List.getD v.2.1 (Int.toNat v.2.2.2.1) (0 : Int)))
            rec ((), v.2.1, y1, (IntKind.wrap .i64 (v.2.2.2.1 + (1 : Int))), ())
          else none
        else none
      else none
    else none
  else
    some ((), v.2.2.1, ())
def laws_toIntS (k : Nat) (x0 : (List Int)) : Option (((List Int) × Unit) × Unit) :=
  bif (((decide ((0 : Int) ≤ (((List.length x0) : Nat) : Int))) && (decide ((((List.length x0) : Nat) : Int) ≤ (((List.length x0) : Nat) : Int)))) && (decide (((8 : Int) * (((List.length x0) : Nat) : Int)) ≤ (1099511627776 : Int)))) then
    (iter (laws_toIntS_s3) k ((), x0, (List.replicate (List.length x0) (0 : Int)), (0 : Int), ())).bind fun o1 =>
      some (o1.2, ())
  else none
def laws_toOut (k : Nat) (x0 : D_Out) : Option ((D_Out × Unit) × Unit) :=
  (laws_toByteS k x0.2.2.2.1).bind fun t1 =>
    (laws_toIntS k x0.2.2.2.2.1).bind fun t2 =>
      some (((x0.1, x0.2.1, x0.2.2.1, t1.1.1, t2.1), ()), ())
def laws_toOutS_s3 (k : Nat) (rec : (Unit × ((List D_Out) × ((List D_Out) × (Int × Unit)))) → Option ((Unit × ((List D_Out) × Unit)))) (v : (Unit × ((List D_Out) × ((List D_Out) × (Int × Unit))))) : Option ((Unit × ((List D_Out) × Unit))) :=
  bif (decide (v.2.2.2.1 < (((List.length v.2.1) : Nat) : Int))) then
    bif ((decide ((0 : Int) ≤ v.2.2.2.1)) && (decide (v.2.2.2.1 < (((List.length v.2.1) : Nat) : Int)))) then
      bif (decide ((Int.toNat v.2.2.2.1) < (List.length v.2.1))) then
        (laws_toOut k (List.getD v.2.1 (Int.toNat v.2.2.2.1) z_Out)).bind fun t1 =>
          bif ((decide ((0 : Int) ≤ v.2.2.2.1)) && (decide (v.2.2.2.1 < (((List.length v.2.2.1) : Nat) : Int)))) then
            bif (decide ((Int.toNat v.2.2.2.1) < (List.length v.2.2.1))) then
              let y2 : (List D_Out) := (List.set v.2.2.1 (Int.toNat v.2.2.2.1) t1.1.1)
              rec ((), v.2.1, y2, (IntKind.wrap .i64 (v.2.2.2.1 + (1 : Int))), ())
            else none
          else none
      else none
    else none
  else
    some ((), v.2.2.1, ())
def laws_toOutS (k : Nat) (x0 : (List D_Out)) : Option (((List D_Out) × Unit) × Unit) :=
  bif (((decide ((0 : Int) ≤ (((List.length x0) : Nat) : Int))) && (decide ((((List.length x0) : Nat) : Int) ≤ (((List.length x0) : Nat) : Int)))) && (decide (((72 : Int) * (((List.length x0) : Nat) : Int)) ≤ (1099511627776 : Int)))) then
    (iter (laws_toOutS_s3 k) k ((), x0, (List.replicate (List.length x0) ((0 : Int), (0 : Int), (0 : Int), ([] : List Int), ([] : List Int), ())), (0 : Int), ())).bind fun o1 =>
      some (o1.2, ())
  else none
def laws_toLeft (k : Nat) (x0 : D_Left) : Option ((D_Left × Unit) × Unit) :=
  (laws_toIntS k x0.2.1).bind fun t1 =>
    (laws_toIntS k x0.2.2.1).bind fun t2 =>
      some (((x0.1, t1.1.1, t2.1.1, x0.2.2.2), ()), ())
def spec_l24Few (x0 : (List D_Out)) : Option ((Bool × Unit) × Unit) :=
  some (((decide ((((List.length x0) : Nat) : Int) ≤ (2000 : Int))), ()), ())
def spec_Ledger_s5 (rec : (Unit × (Int × ((List D_Out) × (D_Left × ((List Int) × (Int × Unit)))))) → Option ((Unit × (Int × (D_Left × ((List Int) × Unit)))))) (v : (Unit × (Int × ((List D_Out) × (D_Left × ((List Int) × (Int × Unit))))))) : Option ((Unit × (Int × (D_Left × ((List Int) × Unit))))) :=
  bif (decide (v.2.2.2.2.2.1 < (((List.length v.2.2.1) : Nat) : Int))) then
    bif ((decide ((0 : Int) ≤ v.2.2.2.2.2.1)) && (decide (v.2.2.2.2.2.1 < (((List.length v.2.2.1) : Nat) : Int)))) then
      bif (decide ((Int.toNat v.2.2.2.2.2.1) < (List.length v.2.2.1))) then
        bif (!(decide ((List.getD v.2.2.1 (Int.toNat v.2.2.2.2.2.1) z_Out).1 = (1 : Int)))) then
          bif ((decide ((0 : Int) ≤ v.2.2.2.2.2.1)) && (decide (v.2.2.2.2.2.1 < (((List.length v.2.2.1) : Nat) : Int)))) then
            bif (decide ((Int.toNat v.2.2.2.2.2.1) < (List.length v.2.2.1))) then
              bif (decide ((List.getD v.2.2.1 (Int.toNat v.2.2.2.2.2.1) z_Out).1 = (2 : Int))) then
                bif ((decide ((0 : Int) ≤ v.2.2.2.2.2.1)) && (decide (v.2.2.2.2.2.1 < (((List.length v.2.2.1) : Nat) : Int)))) then
                  bif (decide ((Int.toNat v.2.2.2.2.2.1) < (List.length v.2.2.1))) then
                    bif (decide ((((List.length v.2.2.2.2.1) + (1 : Nat)) * 8) ≤ (1099511627776 : Nat))) then
                      rec ((), v.2.1, v.2.2.1, v.2.2.2.1, (v.2.2.2.2.1 ++ ([(List.getD v.2.2.1 (Int.toNat v.2.2.2.2.2.1) z_Out).2.1] : List Int)), (IntKind.wrap .i64 (v.2.2.2.2.2.1 + (1 : Int))), ())
                    else none
                  else none
                else none
              else
                rec ((), v.2.1, v.2.2.1, v.2.2.2.1, v.2.2.2.2.1, (IntKind.wrap .i64 (v.2.2.2.2.2.1 + (1 : Int))), ())
            else none
          else none
        else
          bif ((decide ((0 : Int) ≤ v.2.2.2.2.2.1)) && (decide (v.2.2.2.2.2.1 < (((List.length v.2.2.1) : Nat) : Int)))) then
            bif (decide ((Int.toNat v.2.2.2.2.2.1) < (List.length v.2.2.1))) then
              bif (decide ((((List.length v.2.2.2.2.1) + (1 : Nat)) * 8) ≤ (1099511627776 : Nat))) then
                rec ((), v.2.1, v.2.2.1, v.2.2.2.1, (v.2.2.2.2.1 ++ ([(List.getD v.2.2.1 (Int.toNat v.2.2.2.2.2.1) z_Out).2.1] : List Int)), (IntKind.wrap .i64 (v.2.2.2.2.2.1 + (1 : Int))), ())
              else none
            else none
          else none
      else none
    else none
  else
    some ((), v.2.1, v.2.2.2.1, v.2.2.2.2.1, ())
def spec_Ledger_s11 (rec : (Unit × (Int × ((List Int) × (Int × Unit)))) → Option ((Unit × (Int × Unit)) ⊕ (Unit × (Int × ((List Int) × Unit))))) (v : (Unit × (Int × ((List Int) × (Int × Unit))))) : Option ((Unit × (Int × Unit)) ⊕ (Unit × (Int × ((List Int) × Unit)))) :=
  bif (decide (v.2.2.2.1 < (((List.length v.2.2.1) : Nat) : Int))) then
    bif ((decide ((0 : Int) ≤ v.2.2.2.1)) && (decide (v.2.2.2.1 < (((List.length v.2.2.1) : Nat) : Int)))) then
      bif (decide ((Int.toNat v.2.2.2.1) < (List.length v.2.2.1))) then
        bif (!(decide ((List.getD v.2.2.1 (Int.toNat v.2.2.2.1) (0 : Int)) < (0 : Int)))) then
          bif ((decide ((0 : Int) ≤ v.2.2.2.1)) && (decide (v.2.2.2.1 < (((List.length v.2.2.1) : Nat) : Int)))) then
            bif (decide ((Int.toNat v.2.2.2.1) < (List.length v.2.2.1))) then
              bif (decide (v.2.1 ≤ (List.getD v.2.2.1 (Int.toNat v.2.2.2.1) (0 : Int)))) then
                some (Sum.inl ((), (1 : Int), ()))
              else
                rec ((), v.2.1, v.2.2.1, (IntKind.wrap .i64 (v.2.2.2.1 + (1 : Int))), ())
            else none
          else none
        else
          some (Sum.inl ((), (1 : Int), ()))
      else none
    else none
  else
    some (Sum.inr ((), v.2.1, v.2.2.1, ()))
def spec_Ledger_s17 (rec : (Unit × (Int × ((List Int) × ((List Int) × (Int × Unit))))) → Option ((Unit × (Int × ((List Int) × Unit))))) (v : (Unit × (Int × ((List Int) × ((List Int) × (Int × Unit)))))) : Option ((Unit × (Int × ((List Int) × Unit)))) :=
  bif (decide (v.2.2.2.2.1 < (((List.length v.2.2.1) : Nat) : Int))) then
    bif ((decide ((0 : Int) ≤ v.2.2.2.2.1)) && (decide (v.2.2.2.2.1 < (((List.length v.2.2.1) : Nat) : Int)))) then
      bif (decide ((Int.toNat v.2.2.2.2.1) < (List.length v.2.2.1))) then
        bif ((decide ((0 : Int) ≤ (List.getD v.2.2.1 (Int.toNat v.2.2.2.2.1) (0 : Int)))) && (decide ((List.getD v.2.2.1 (Int.toNat v.2.2.2.2.1) (0 : Int)) < (((List.length v.2.2.2.1) : Nat) : Int)))) then
          bif (decide ((Int.toNat (List.getD v.2.2.1 (Int.toNat v.2.2.2.2.1) (0 : Int))) < (List.length v.2.2.2.1))) then
            bif ((decide ((0 : Int) ≤ (List.getD v.2.2.1 (Int.toNat v.2.2.2.2.1) (0 : Int)))) && (decide ((List.getD v.2.2.1 (Int.toNat v.2.2.2.2.1) (0 : Int)) < (((List.length v.2.2.2.1) : Nat) : Int)))) then
              bif (decide ((Int.toNat (List.getD v.2.2.1 (Int.toNat v.2.2.2.2.1) (0 : Int))) < (List.length v.2.2.2.1))) then
                let y6 : (List Int) := (List.set v.2.2.2.1 (Int.toNat (List.getD v.2.2.1 (Int.toNat v.2.2.2.2.1) (0 : Int))) (IntKind.wrap .i64 ((List.getD v.2.2.2.1 (Int.toNat (List.getD v.2.2.1 (Int.toNat v.2.2.2.2.1) (0 : Int))) (0 : Int)) + (1 : Int))))
                rec ((), v.2.1, v.2.2.1, y6, (IntKind.wrap .i64 (v.2.2.2.2.1 + (1 : Int))), ())
              else none
            else none
          else none
        else none
      else none
    else none
  else
    some ((), v.2.1, v.2.2.2.1, ())
def spec_Ledger_s22 (rec : (Unit × (Int × ((List Int) × (Int × (Int × Unit))))) → Option ((Unit × (Int × Unit)) ⊕ (Unit × (Int × Unit)))) (v : (Unit × (Int × ((List Int) × (Int × (Int × Unit)))))) : Option ((Unit × (Int × Unit)) ⊕ (Unit × (Int × Unit))) :=
  bif (decide (v.2.2.2.2.1 < v.2.1)) then
    bif ((decide ((0 : Int) ≤ v.2.2.2.2.1)) && (decide (v.2.2.2.2.1 < (((List.length v.2.2.1) : Nat) : Int)))) then
      bif (decide ((Int.toNat v.2.2.2.2.1) < (List.length v.2.2.1))) then
        bif (decide ((1 : Int) < (List.getD v.2.2.1 (Int.toNat v.2.2.2.2.1) (0 : Int)))) then
          some (Sum.inl ((), (2 : Int), ()))
        else
          bif ((decide ((0 : Int) ≤ v.2.2.2.2.1)) && (decide (v.2.2.2.2.1 < (((List.length v.2.2.1) : Nat) : Int)))) then
            bif (decide ((Int.toNat v.2.2.2.2.1) < (List.length v.2.2.1))) then
              bif (decide ((List.getD v.2.2.1 (Int.toNat v.2.2.2.2.1) (0 : Int)) = (0 : Int))) then
                rec ((), v.2.1, v.2.2.1, (3 : Int), (IntKind.wrap .i64 (v.2.2.2.2.1 + (1 : Int))), ())
              else
                rec ((), v.2.1, v.2.2.1, v.2.2.2.1, (IntKind.wrap .i64 (v.2.2.2.2.1 + (1 : Int))), ())
            else none
          else none
      else none
    else none
  else
    some (Sum.inr ((), v.2.2.2.1, ()))
def spec_Ledger (k : Nat) (x0 : Int) (x1 : (List D_Out)) (x2 : D_Left) : Option ((Int × Unit) × Unit) :=
  (spec_l24Few x1).bind fun t1 =>
    bif (!(!t1.1.1)) then
      bif (!(decide (x0 < (0 : Int)))) then
        bif (!(decide ((2000 : Int) < x0))) then
          bif (!(decide ((2000 : Int) < (((List.length x2.2.1) : Nat) : Int)))) then
            bif (decide ((2000 : Int) < (((List.length x2.2.2.1) : Nat) : Int))) then
              some (((-1 : Int), ()), ())
            else
              (iter (spec_Ledger_s5) k ((), x0, x1, x2, ([] : List Int), (0 : Int), ())).bind fun o2 =>
                bif (decide ((((List.length o2.2.2.2.1) + (List.length o2.2.2.1.2.1)) * 8) ≤ (1099511627776 : Nat))) then
                  bif (decide ((((List.length (o2.2.2.2.1 ++ o2.2.2.1.2.1)) + (List.length o2.2.2.1.2.2.1)) * 8) ≤ (1099511627776 : Nat))) then
                    (iter (spec_Ledger_s11) k ((), o2.2.1, ((o2.2.2.2.1 ++ o2.2.2.1.2.1) ++ o2.2.2.1.2.2.1), (0 : Int), ())).bind fun o3 =>
                      Sum.elim (fun a4 =>
                        some (a4.2, ()))
                      (fun b5 =>
                        bif (((decide ((0 : Int) ≤ b5.2.1)) && (decide (b5.2.1 ≤ b5.2.1))) && (decide (((8 : Int) * b5.2.1) ≤ (1099511627776 : Int)))) then
                          (iter (spec_Ledger_s17) k ((), b5.2.1, b5.2.2.1, (List.replicate (Int.toNat b5.2.1) (0 : Int)), (0 : Int), ())).bind fun o6 =>
                            (iter (spec_Ledger_s22) k ((), o6.2.1, o6.2.2.1, (0 : Int), (0 : Int), ())).bind fun o7 =>
                              Sum.elim (fun a8 =>
                                some (a8.2, ()))
                              (fun b9 =>
                                some (b9.2, ())) o7
                        else none) o3
                  else none
                else none
          else
            some (((-1 : Int), ()), ())
        else
          some (((-1 : Int), ()), ())
      else
        some (((-1 : Int), ()), ())
    else
      some (((-1 : Int), ()), ())
def impl_within (x0 : Int) (x1 : Int) (x2 : Int) : Option ((Bool × Unit) × Unit) :=
  bif (decide (x1 ≤ x0)) then
    some (((decide (x0 ≤ x2)), ()), ())
  else
    some ((false, ()), ())
def impl_areShort (x0 : (List D_Out)) (x1 : D_Left) : Option ((Bool × Unit) × Unit) :=
  bif (decide ((((List.length x0) : Nat) : Int) ≤ (2000 : Int))) then
    bif (decide ((((List.length x1.2.1) : Nat) : Int) ≤ (2000 : Int))) then
      some (((decide ((((List.length x1.2.2.1) : Nat) : Int) ≤ (2000 : Int))), ()), ())
    else
      some ((false, ()), ())
  else
    some ((false, ()), ())
def slices_Concat_int_s3 (rec : (Unit × ((List (List Int)) × (Int × ((List (List Int)) × (Int × (Int × Unit)))))) → Option ((Unit × ((List (List Int)) × (Int × Unit))))) (v : (Unit × ((List (List Int)) × (Int × ((List (List Int)) × (Int × (Int × Unit))))))) : Option ((Unit × ((List (List Int)) × (Int × Unit)))) :=
  bif (decide (v.2.2.2.2.2.1 < v.2.2.2.2.1)) then
    bif ((decide ((0 : Int) ≤ v.2.2.2.2.2.1)) && (decide (v.2.2.2.2.2.1 < (((List.length v.2.2.2.1) : Nat) : Int)))) then
      bif (decide ((Int.toNat v.2.2.2.2.2.1) < (List.length v.2.2.2.1))) then
        bif (decide ((IntKind.wrap .i64 (v.2.2.1 + (((List.length (List.getD v.2.2.2.1 (Int.toNat v.2.2.2.2.2.1) [])) : Nat) : Int))) < (0 : Int))) then
          none
        else
          rec ((), v.2.1, (IntKind.wrap .i64 (v.2.2.1 + (((List.length (List.getD v.2.2.2.1 (Int.toNat v.2.2.2.2.2.1) [])) : Nat) : Int))), v.2.2.2.1, v.2.2.2.2.1, (IntKind.wrap .i64 (v.2.2.2.2.2.1 + (1 : Int))), ())
      else none
    else none
  else
    some ((), v.2.1, v.2.2.1, ())
def slices_Concat_int_s11 (rec : (Unit × ((List Int) × ((List (List Int)) × (Int × (Int × Unit))))) → Option ((Unit × ((List Int) × Unit)))) (v : (Unit × ((List Int) × ((List (List Int)) × (Int × (Int × Unit)))))) : Option ((Unit × ((List Int) × Unit))) :=
  bif (decide (v.2.2.2.2.1 < v.2.2.2.1)) then
    bif ((decide ((0 : Int) ≤ v.2.2.2.2.1)) && (decide (v.2.2.2.2.1 < (((List.length v.2.2.1) : Nat) : Int)))) then
      bif (decide ((Int.toNat v.2.2.2.2.1) < (List.length v.2.2.1))) then
        bif (decide ((((List.length v.2.1) + (List.length (List.getD v.2.2.1 (Int.toNat v.2.2.2.2.1) []))) * 8) ≤ (1099511627776 : Nat))) then
          rec ((), (v.2.1 ++ (List.getD v.2.2.1 (Int.toNat v.2.2.2.2.1) [])), v.2.2.1, v.2.2.2.1, (IntKind.wrap .i64 (v.2.2.2.2.1 + (1 : Int))), ())
        else none
      else none
    else none
  else
    some ((), v.2.1, ())
def slices_Concat_int (k : Nat) (x0 : (List (List Int))) : Option (((List Int) × Unit) × Unit) :=
  (iter (slices_Concat_int_s3) k ((), x0, (0 : Int), x0, (((List.length x0) : Nat) : Int), (0 : Int), ())).bind fun o1 =>
    bif (decide (o1.2.2.1 < (0 : Int))) then
      none
    else
      bif (decide ((0 : Int) < (IntKind.wrap .i64 (o1.2.2.1 - (0 : Int))))) then
        bif ((decide ((0 : Int) ≤ (IntKind.wrap .i64 (o1.2.2.1 - (0 : Int))))) && (decide (((8 : Int) * (IntKind.wrap .i64 (o1.2.2.1 - (0 : Int)))) ≤ (1099511627776 : Int)))) then
          bif (decide ((0 : Int) ≤ (((List.length (List.replicate (Int.toNat (IntKind.wrap .i64 (o1.2.2.1 - (0 : Int)))) (0 : Int))) : Nat) : Int))) then
            (iter (slices_Concat_int_s11) k ((), (List.take (0 : Nat) (List.replicate (Int.toNat (IntKind.wrap .i64 (o1.2.2.1 - (0 : Int)))) (0 : Int))), o1.2.1, (((List.length o1.2.1) : Nat) : Int), (0 : Int), ())).bind fun o2 =>
              some (o2.2, ())
          else none
        else none
      else
        (iter (slices_Concat_int_s11) k ((), ([] : List Int), o1.2.1, (((List.length o1.2.1) : Nat) : Int), (0 : Int), ())).bind fun o3 =>
          some (o3.2, ())
def slices_Clone_int (x0 : (List Int)) : Option (((List Int) × Unit) × Unit) :=
  bif (decide (((0 : Nat) + (List.length x0)) * 8 ≤ (1099511627776 : Nat))) then some ((x0, ()), ()) else none
def impl_Ledger_s5 (rec : (Unit × (Int × ((List Int) × ((List D_Out) × (Int × (Int × Unit)))))) → Option ((Unit × (Int × ((List Int) × Unit))))) (v : (Unit × (Int × ((List Int) × ((List D_Out) × (Int × (Int × Unit))))))) : Option ((Unit × (Int × ((List Int) × Unit)))) :=
  bif (decide (v.2.2.2.2.2.1 < v.2.2.2.2.1)) then
    bif ((decide ((0 : Int) ≤ v.2.2.2.2.2.1)) && (decide (v.2.2.2.2.2.1 < (((List.length v.2.2.2.1) : Nat) : Int)))) then
      bif (decide ((Int.toNat v.2.2.2.2.2.1) < (List.length v.2.2.2.1))) then
        bif (!(decide ((List.getD v.2.2.2.1 (Int.toNat v.2.2.2.2.2.1) z_Out).1 = (1 : Int)))) then
          bif (decide ((List.getD v.2.2.2.1 (Int.toNat v.2.2.2.2.2.1) z_Out).1 = (2 : Int))) then
            bif (decide ((((List.length v.2.2.1) + (1 : Nat)) * 8) ≤ (1099511627776 : Nat))) then
              rec ((), v.2.1, (v.2.2.1 ++ ([(List.getD v.2.2.2.1 (Int.toNat v.2.2.2.2.2.1) z_Out).2.1] : List Int)), v.2.2.2.1, v.2.2.2.2.1, (IntKind.wrap .i64 (v.2.2.2.2.2.1 + (1 : Int))), ())
            else none
          else
            rec ((), v.2.1, v.2.2.1, v.2.2.2.1, v.2.2.2.2.1, (IntKind.wrap .i64 (v.2.2.2.2.2.1 + (1 : Int))), ())
        else
          bif (decide ((((List.length v.2.2.1) + (1 : Nat)) * 8) ≤ (1099511627776 : Nat))) then
            rec ((), v.2.1, (v.2.2.1 ++ ([(List.getD v.2.2.2.1 (Int.toNat v.2.2.2.2.2.1) z_Out).2.1] : List Int)), v.2.2.2.1, v.2.2.2.2.1, (IntKind.wrap .i64 (v.2.2.2.2.2.1 + (1 : Int))), ())
          else none
      else none
    else none
  else
    some ((), v.2.1, v.2.2.1, ())
def impl_Ledger (k : Nat) (x0 : Int) (x1 : (List D_Out)) (x2 : D_Left) : Option ((Int × Unit) × Unit) :=
  (impl_within x0 (0 : Int) (2000 : Int)).bind fun t1 =>
    bif (!(!t1.1.1)) then
      (impl_areShort x1 x2).bind fun t2 =>
        bif (!t2.1.1) then
          some (((-1 : Int), ()), ())
        else
          (slices_Concat_int k ([x2.2.1, x2.2.2.1] : List (List Int))).bind fun t3 =>
            (iter (impl_Ledger_s5) k ((), x0, t3.1.1, x1, (((List.length x1) : Nat) : Int), (0 : Int), ())).bind fun o4 =>
              (sortC o4.2.2.1).bind fun t5 =>
                bif (decide ((0 : Int) < (((List.length t5.2.1) : Nat) : Int))) then
                  bif (decide ((0 : Int) < (((List.length t5.2.1) : Nat) : Int))) then
                    bif (decide ((0 : Nat) < (List.length t5.2.1))) then
                      bif (!(decide ((List.getD t5.2.1 (0 : Nat) (0 : Int)) < (0 : Int)))) then
                        bif ((decide ((0 : Int) ≤ (IntKind.wrap .i64 ((((List.length t5.2.1) : Nat) : Int) - (1 : Int))))) && (decide ((IntKind.wrap .i64 ((((List.length t5.2.1) : Nat) : Int) - (1 : Int))) < (((List.length t5.2.1) : Nat) : Int)))) then
                          bif (decide ((Int.toNat (IntKind.wrap .i64 ((((List.length t5.2.1) : Nat) : Int) - (1 : Int)))) < (List.length t5.2.1))) then
                            bif (decide (o4.2.1 ≤ (List.getD t5.2.1 (Int.toNat (IntKind.wrap .i64 ((((List.length t5.2.1) : Nat) : Int) - (1 : Int)))) (0 : Int)))) then
                              some (((1 : Int), ()), ())
                            else
                              (slices_Clone_int t5.2.1).bind fun t6 =>
                                (compactC t6.1.1).bind fun t7 =>
                                  bif (decide ((((List.length t7.1.1) : Nat) : Int) < (((List.length t5.2.1) : Nat) : Int))) then
                                    some (((2 : Int), ()), ())
                                  else
                                    bif (decide ((((List.length t5.2.1) : Nat) : Int) < o4.2.1)) then
                                      some (((3 : Int), ()), ())
                                    else
                                      some (((0 : Int), ()), ())
                          else none
                        else none
                      else
                        some (((1 : Int), ()), ())
                    else none
                  else none
                else
                  (slices_Clone_int t5.2.1).bind fun t8 =>
                    (compactC t8.1.1).bind fun t9 =>
                      bif (decide ((((List.length t9.1.1) : Nat) : Int) < (((List.length t5.2.1) : Nat) : Int))) then
                        some (((2 : Int), ()), ())
                      else
                        bif (decide ((((List.length t5.2.1) : Nat) : Int) < o4.2.1)) then
                          some (((3 : Int), ()), ())
                        else
                          some (((0 : Int), ()), ())
    else
      some (((-1 : Int), ()), ())
def laws_eqByteS_s4 (rec : (Unit × ((List Int) × ((List Int) × (Int × Unit)))) → Option ((Unit × (Bool × Unit)) ⊕ (Unit × Unit))) (v : (Unit × ((List Int) × ((List Int) × (Int × Unit))))) : Option ((Unit × (Bool × Unit)) ⊕ (Unit × Unit)) :=
  bif (decide (v.2.2.2.1 < (((List.length v.2.1) : Nat) : Int))) then
    bif ((decide ((0 : Int) ≤ v.2.2.2.1)) && (decide (v.2.2.2.1 < (((List.length v.2.1) : Nat) : Int)))) then
      bif (decide ((Int.toNat v.2.2.2.1) < (List.length v.2.1))) then
        bif ((decide ((0 : Int) ≤ v.2.2.2.1)) && (decide (v.2.2.2.1 < (((List.length v.2.2.1) : Nat) : Int)))) then
          bif (decide ((Int.toNat v.2.2.2.1) < (List.length v.2.2.1))) then
            bif (!(decide ((List.getD v.2.1 (Int.toNat v.2.2.2.1) (0 : Int)) = (List.getD v.2.2.1 (Int.toNat v.2.2.2.1) (0 : Int))))) then
              some (Sum.inl ((), false, ()))
            else
              rec ((), v.2.1, v.2.2.1, (IntKind.wrap .i64 (v.2.2.2.1 + (1 : Int))), ())
          else none
        else none
      else none
    else none
  else
    some (Sum.inr ((), ()))
def laws_eqByteS (k : Nat) (x0 : (List Int)) (x1 : (List Int)) : Option ((Bool × Unit) × Unit) :=
  bif (!(decide ((((List.length x0) : Nat) : Int) = (((List.length x1) : Nat) : Int)))) then
    some ((false, ()), ())
  else
    (iter (laws_eqByteS_s4) k ((), x0, x1, (0 : Int), ())).bind fun o1 =>
      Sum.elim (fun a2 =>
        some (a2.2, ()))
      (fun b3 =>
        some ((true, ()), ())) o1
def laws_eqIntS_s4 (rec : (Unit × ((List Int) × ((List Int) × (Int × Unit)))) → Option ((Unit × (Bool × Unit)) ⊕ (Unit × Unit))) (v : (Unit × ((List Int) × ((List Int) × (Int × Unit))))) : Option ((Unit × (Bool × Unit)) ⊕ (Unit × Unit)) :=
  bif (decide (v.2.2.2.1 < (((List.length v.2.1) : Nat) : Int))) then
    bif ((decide ((0 : Int) ≤ v.2.2.2.1)) && (decide (v.2.2.2.1 < (((List.length v.2.1) : Nat) : Int)))) then
      bif (decide ((Int.toNat v.2.2.2.1) < (List.length v.2.1))) then
        bif ((decide ((0 : Int) ≤ v.2.2.2.1)) && (decide (v.2.2.2.1 < (((List.length v.2.2.1) : Nat) : Int)))) then
          bif (decide ((Int.toNat v.2.2.2.1) < (List.length v.2.2.1))) then
            bif (!(decide ((List.getD v.2.1 (Int.toNat v.2.2.2.1) (0 : Int)) = (List.getD v.2.2.1 (Int.toNat v.2.2.2.1) (0 : Int))))) then
              some (Sum.inl ((), false, ()))
            else
              rec ((), v.2.1, v.2.2.1, (IntKind.wrap .i64 (v.2.2.2.1 + (1 : Int))), ())
          else none
        else none
      else none
    else none
  else
    some (Sum.inr ((), ()))
def laws_eqIntS (k : Nat) (x0 : (List Int)) (x1 : (List Int)) : Option ((Bool × Unit) × Unit) :=
  bif (!(decide ((((List.length x0) : Nat) : Int) = (((List.length x1) : Nat) : Int)))) then
    some ((false, ()), ())
  else
    (iter (laws_eqIntS_s4) k ((), x0, x1, (0 : Int), ())).bind fun o1 =>
      Sum.elim (fun a2 =>
        some (a2.2, ()))
      (fun b3 =>
        some ((true, ()), ())) o1
def laws_eqOut (k : Nat) (x0 : D_Out) (x1 : D_Out) : Option ((Bool × Unit) × Unit) :=
  bif (!(decide (x0.1 = x1.1))) then
    some ((false, ()), ())
  else
    bif (!(decide (x0.2.1 = x1.2.1))) then
      some ((false, ()), ())
    else
      bif (!(decide (x0.2.2.1 = x1.2.2.1))) then
        some ((false, ()), ())
      else
        (laws_eqByteS k x0.2.2.2.1 x1.2.2.2.1).bind fun t1 =>
          bif (!t1.1.1) then
            some ((false, ()), ())
          else
            (laws_eqIntS k x0.2.2.2.2.1 x1.2.2.2.2.1).bind fun t2 =>
              bif (!t2.1.1) then
                some ((false, ()), ())
              else
                some ((true, ()), ())
def laws_eqOutS_s4 (k : Nat) (rec : (Unit × ((List D_Out) × ((List D_Out) × (Int × Unit)))) → Option ((Unit × (Bool × Unit)) ⊕ (Unit × Unit))) (v : (Unit × ((List D_Out) × ((List D_Out) × (Int × Unit))))) : Option ((Unit × (Bool × Unit)) ⊕ (Unit × Unit)) :=
  bif (decide (v.2.2.2.1 < (((List.length v.2.1) : Nat) : Int))) then
    bif ((decide ((0 : Int) ≤ v.2.2.2.1)) && (decide (v.2.2.2.1 < (((List.length v.2.1) : Nat) : Int)))) then
      bif (decide ((Int.toNat v.2.2.2.1) < (List.length v.2.1))) then
        bif ((decide ((0 : Int) ≤ v.2.2.2.1)) && (decide (v.2.2.2.1 < (((List.length v.2.2.1) : Nat) : Int)))) then
          bif (decide ((Int.toNat v.2.2.2.1) < (List.length v.2.2.1))) then
            (laws_eqOut k (List.getD v.2.1 (Int.toNat v.2.2.2.1) z_Out) (List.getD v.2.2.1 (Int.toNat v.2.2.2.1) z_Out)).bind fun t1 =>
              bif (!t1.1.1) then
                some (Sum.inl ((), false, ()))
              else
                rec ((), v.2.1, v.2.2.1, (IntKind.wrap .i64 (v.2.2.2.1 + (1 : Int))), ())
          else none
        else none
      else none
    else none
  else
    some (Sum.inr ((), ()))
def laws_eqOutS (k : Nat) (x0 : (List D_Out)) (x1 : (List D_Out)) : Option ((Bool × Unit) × Unit) :=
  bif (!(decide ((((List.length x0) : Nat) : Int) = (((List.length x1) : Nat) : Int)))) then
    some ((false, ()), ())
  else
    (iter (laws_eqOutS_s4 k) k ((), x0, x1, (0 : Int), ())).bind fun o1 =>
      Sum.elim (fun a2 =>
        some (a2.2, ()))
      (fun b3 =>
        some ((true, ()), ())) o1
def laws_eqLeft (k : Nat) (x0 : D_Left) (x1 : D_Left) : Option ((Bool × Unit) × Unit) :=
  bif (!(decide (x0.1 = x1.1))) then
    some ((false, ()), ())
  else
    (laws_eqIntS k x0.2.1 x1.2.1).bind fun t1 =>
      bif (!t1.1.1) then
        some ((false, ()), ())
      else
        (laws_eqIntS k x0.2.2.1 x1.2.2.1).bind fun t2 =>
          bif (!t2.1.1) then
            some ((false, ()), ())
          else
            bif (!(decide (x0.2.2.2.1 = x1.2.2.2.1))) then
              some ((false, ()), ())
            else
              bif (!(decide (x0.2.2.2.2.1 = x1.2.2.2.2.1))) then
                some ((false, ()), ())
              else
                some ((true, ()), ())
def laws_FnExactLedger (k : Nat) (x0 : Int) (x1 : (List D_Out)) (x2 : D_Left) : Option ((Bool × Unit) × Unit) :=
  (laws_szOutS k x1 (1048576 : Int)).bind fun t1 =>
    bif (decide (t1.1.1 < (0 : Int))) then
      some ((true, ()), ())
    else
      (laws_szLeft x2 t1.1.1).bind fun t2 =>
        bif (decide (t2.1.1 < (0 : Int))) then
          some ((true, ()), ())
        else
          (laws_toOutS k x1).bind fun t3 =>
            (laws_toLeft k x2).bind fun t4 =>
              (spec_Ledger k x0 t3.1.1 t4.1.1).bind fun t5 =>
                (laws_toOutS k x1).bind fun t6 =>
                  (laws_toLeft k x2).bind fun t7 =>
                    (impl_Ledger k x0 t6.1.1 t7.1.1).bind fun t8 =>
                      bif (!(decide (t8.1.1 = t5.1.1))) then
                        some ((false, ()), ())
                      else
                        (laws_toOutS k x1).bind fun t9 =>
                          (laws_eqOutS k t6.1.1 t9.1.1).bind fun t10 =>
                            bif (!t10.1.1) then
                              some ((false, ()), ())
                            else
                              (laws_toLeft k x2).bind fun t11 =>
                                (laws_eqLeft k t7.1.1 t11.1.1).bind fun t12 =>
                                  bif (!t12.1.1) then
                                    some ((false, ()), ())
                                  else
                                    some ((true, ()), ())
end Go.Tw
