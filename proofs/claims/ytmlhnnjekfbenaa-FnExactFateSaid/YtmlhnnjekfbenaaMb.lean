/- The mirrors of the functions as plain definitions, by which proofs go on. -/
import Derived.Test.YtmlhnnjekfbenaaT23
set_option linter.all false
namespace Go.Tw
open Go Go.RowKit
abbrev T_Vec : Ty := (.pr (.int .i64) (.pr (.int .i64) (.pr (.int .i64) .un)))
abbrev D_Vec := (Int × (Int × (Int × Unit)))
def z_Vec : D_Vec := ((0 : Int), ((0 : Int), ((0 : Int), ())))
abbrev T_Event : Ty := (.pr (.int .i64) (.pr (.int .i64) (.pr (.sl (.int .u8)) (.pr T_Vec .un))))
abbrev D_Event := (Int × (Int × ((List Int) × (D_Vec × Unit))))
def z_Event : D_Event := ((0 : Int), ((0 : Int), ([], (z_Vec, ()))))
abbrev T_Out : Ty := (.pr (.int .i64) (.pr (.int .i64) (.pr (.int .i64) (.pr (.sl (.int .u8)) (.pr (.sl (.int .i64)) .un)))))
abbrev D_Out := (Int × (Int × (Int × ((List Int) × ((List Int) × Unit)))))
def z_Out : D_Out := ((0 : Int), ((0 : Int), ((0 : Int), ([], ([], ())))))
abbrev T_Left : Ty := (.pr (.int .i64) (.pr (.sl (.int .i64)) (.pr (.sl (.int .i64)) (.pr (.int .i64) (.pr (.int .i64) .un)))))
abbrev D_Left := (Int × ((List Int) × ((List Int) × (Int × (Int × Unit)))))
def z_Left : D_Left := ((0 : Int), ([], ([], ((0 : Int), ((0 : Int), ())))))
def laws_szByteS (x0 : (List Int)) (x1 : Int) : Option ((Int × Unit) × Unit) :=
  bif (decide ((IntKind.wrap .i64 (x1 - (((List.length x0) : Nat) : Int))) < (0 : Int))) then
    some (((-1 : Int), ()), ())
  else
    some (((IntKind.wrap .i64 (x1 - (((List.length x0) : Nat) : Int))), ()), ())
def laws_szEvent (x0 : D_Event) (x1 : Int) : Option ((Int × Unit) × Unit) :=
  (laws_szByteS x0.2.2.1 x1).bind fun t1 =>
    bif (decide (t1.1.1 < (0 : Int))) then
      some (((-1 : Int), ()), ())
    else
      some (t1.1, ())
def laws_szEventS_s5 (rec : (Unit × ((List D_Event) × (Int × (Int × Unit)))) → Option ((Unit × (Int × Unit)) ⊕ (Unit × (Int × Unit)))) (v : (Unit × ((List D_Event) × (Int × (Int × Unit))))) : Option ((Unit × (Int × Unit)) ⊕ (Unit × (Int × Unit))) :=
  bif (decide (v.2.2.2.1 < (((List.length v.2.1) : Nat) : Int))) then
    bif ((decide ((0 : Int) ≤ v.2.2.2.1)) && (decide (v.2.2.2.1 < (((List.length v.2.1) : Nat) : Int)))) then
      bif (decide ((Int.toNat v.2.2.2.1) < (List.length v.2.1))) then
        (laws_szEvent (List.getD v.2.1 (Int.toNat v.2.2.2.1) z_Event) v.2.2.1).bind fun t1 =>
          bif (decide (t1.1.1 < (0 : Int))) then
            some (Sum.inl ((), (-1 : Int), ()))
          else
            rec ((), v.2.1, t1.1.1, (IntKind.wrap .i64 (v.2.2.2.1 + (1 : Int))), ())
      else none
    else none
  else
    some (Sum.inr ((), v.2.2.1, ()))
def laws_szEventS (k : Nat) (x0 : (List D_Event)) (x1 : Int) : Option ((Int × Unit) × Unit) :=
  bif (decide ((IntKind.wrap .i64 (x1 - (((List.length x0) : Nat) : Int))) < (0 : Int))) then
    some (((-1 : Int), ()), ())
  else
    (iter (laws_szEventS_s5) k ((), x0, (IntKind.wrap .i64 (x1 - (((List.length x0) : Nat) : Int))), (0 : Int), ())).bind fun o1 =>
      Sum.elim (fun a2 =>
        some (a2.2, ()))
      (fun b3 =>
        some (b3.2, ())) o1
def laws_toByteS_s3 (rec : (Unit × ((List Int) × ((List Int) × (Int × Unit)))) → Option ((Unit × ((List Int) × Unit)))) (v : (Unit × ((List Int) × ((List Int) × (Int × Unit))))) : Option ((Unit × ((List Int) × Unit))) :=
  bif (decide (v.2.2.2.1 < (((List.length v.2.1) : Nat) : Int))) then
    bif ((decide ((0 : Int) ≤ v.2.2.2.1)) && (decide (v.2.2.2.1 < (((List.length v.2.1) : Nat) : Int)))) then
      bif (decide ((Int.toNat v.2.2.2.1) < (List.length v.2.1))) then
        bif ((decide ((0 : Int) ≤ v.2.2.2.1)) && (decide (v.2.2.2.1 < (((List.length v.2.2.1) : Nat) : Int)))) then
          bif (decide ((Int.toNat v.2.2.2.1) < (List.length v.2.2.1))) then
            let y1 : (List Int) := (List.set v.2.2.1 (Int.toNat v.2.2.2.1) (List.getD v.2.1 (Int.toNat v.2.2.2.1) (0 : Int)))
            rec ((), v.2.1, y1, (IntKind.wrap .i64 (v.2.2.2.1 + (1 : Int))), ())
          else none
        else none
      else none
    else none
  else
    some ((), v.2.2.1, ())
def laws_toByteS (k : Nat) (x0 : (List Int)) : Option (((List Int) × Unit) × Unit) :=
  bif (((decide ((0 : Int) ≤ (((List.length x0) : Nat) : Int))) && (decide ((((List.length x0) : Nat) : Int) ≤ (((List.length x0) : Nat) : Int)))) && (decide (((1 : Int) * (((List.length x0) : Nat) : Int)) ≤ (1099511627776 : Int)))) then
    (iter (laws_toByteS_s3) k ((), x0, (List.replicate (List.length x0) (0 : Int)), (0 : Int), ())).bind fun o1 =>
      some (o1.2, ())
  else none
def laws_toVec (x0 : D_Vec) : Option ((D_Vec × Unit) × Unit) :=
  some ((x0, ()), ())
def laws_toEvent (k : Nat) (x0 : D_Event) : Option ((D_Event × Unit) × Unit) :=
  (laws_toByteS k x0.2.2.1).bind fun t1 =>
    (laws_toVec x0.2.2.2.1).bind fun t2 =>
      some (((x0.1, x0.2.1, t1.1.1, t2.1), ()), ())
def laws_toEventS_s3 (k : Nat) (rec : (Unit × ((List D_Event) × ((List D_Event) × (Int × Unit)))) → Option ((Unit × ((List D_Event) × Unit)))) (v : (Unit × ((List D_Event) × ((List D_Event) × (Int × Unit))))) : Option ((Unit × ((List D_Event) × Unit))) :=
  bif (decide (v.2.2.2.1 < (((List.length v.2.1) : Nat) : Int))) then
    bif ((decide ((0 : Int) ≤ v.2.2.2.1)) && (decide (v.2.2.2.1 < (((List.length v.2.1) : Nat) : Int)))) then
      bif (decide ((Int.toNat v.2.2.2.1) < (List.length v.2.1))) then
        (laws_toEvent k (List.getD v.2.1 (Int.toNat v.2.2.2.1) z_Event)).bind fun t1 =>
          bif ((decide ((0 : Int) ≤ v.2.2.2.1)) && (decide (v.2.2.2.1 < (((List.length v.2.2.1) : Nat) : Int)))) then
            bif (decide ((Int.toNat v.2.2.2.1) < (List.length v.2.2.1))) then
              let y2 : (List D_Event) := (List.set v.2.2.1 (Int.toNat v.2.2.2.1) t1.1.1)
              rec ((), v.2.1, y2, (IntKind.wrap .i64 (v.2.2.2.1 + (1 : Int))), ())
            else none
          else none
      else none
    else none
  else
    some ((), v.2.2.1, ())
def laws_toEventS (k : Nat) (x0 : (List D_Event)) : Option (((List D_Event) × Unit) × Unit) :=
  bif (((decide ((0 : Int) ≤ (((List.length x0) : Nat) : Int))) && (decide ((((List.length x0) : Nat) : Int) ≤ (((List.length x0) : Nat) : Int)))) && (decide (((64 : Int) * (((List.length x0) : Nat) : Int)) ≤ (1099511627776 : Int)))) then
    (iter (laws_toEventS_s3 k) k ((), x0, (List.replicate (List.length x0) ((0 : Int), (0 : Int), ([] : List Int), ((0 : Int), (0 : Int), (0 : Int), ()), ())), (0 : Int), ())).bind fun o1 =>
      some (o1.2, ())
  else none
def spec_EventsOk_s5 (rec : (Unit × ((List D_Event) × (Int × (Int × Unit)))) → Option ((Unit × (Bool × Unit)) ⊕ (Unit × Unit))) (v : (Unit × ((List D_Event) × (Int × (Int × Unit))))) : Option ((Unit × (Bool × Unit)) ⊕ (Unit × Unit)) :=
  bif (decide (v.2.2.2.1 < (((List.length v.2.1) : Nat) : Int))) then
    bif ((decide ((0 : Int) ≤ v.2.2.2.1)) && (decide (v.2.2.2.1 < (((List.length v.2.1) : Nat) : Int)))) then
      bif (decide ((Int.toNat v.2.2.2.1) < (List.length v.2.1))) then
        bif (!(decide ((List.getD v.2.1 (Int.toNat v.2.2.2.1) z_Event).1 < (1 : Int)))) then
          bif (!(decide ((4 : Int) < (List.getD v.2.1 (Int.toNat v.2.2.2.1) z_Event).1))) then
            bif (decide ((2000 : Int) < (((List.length (List.getD v.2.1 (Int.toNat v.2.2.2.1) z_Event).2.2.1) : Nat) : Int))) then
              some (Sum.inl ((), false, ()))
            else
              bif (!(decide ((List.getD v.2.1 (Int.toNat v.2.2.2.1) z_Event).1 = (2 : Int)))) then
                bif (!(!(decide ((List.getD v.2.1 (Int.toNat v.2.2.2.1) z_Event).2.1 = (0 : Int))))) then
                  bif (decide ((List.getD v.2.1 (Int.toNat v.2.2.2.1) z_Event).1 = (2 : Int))) then
                    bif (!(decide ((List.getD v.2.1 (Int.toNat v.2.2.2.1) z_Event).2.1 < (1 : Int)))) then
                      bif (decide (v.2.2.1 < (List.getD v.2.1 (Int.toNat v.2.2.2.1) z_Event).2.1)) then
                        some (Sum.inl ((), false, ()))
                      else
                        bif (!(decide ((List.getD v.2.1 (Int.toNat v.2.2.2.1) z_Event).1 = (1 : Int)))) then
                          bif (!(!((decide ((List.getD v.2.1 (Int.toNat v.2.2.2.1) z_Event).2.2.2.1.1 = (0 : Int))) && ((decide ((List.getD v.2.1 (Int.toNat v.2.2.2.1) z_Event).2.2.2.1.2.1 = (0 : Int))) && ((decide ((List.getD v.2.1 (Int.toNat v.2.2.2.1) z_Event).2.2.2.1.2.2.1 = (0 : Int))) && true))))) then
                            bif (!(decide ((List.getD v.2.1 (Int.toNat v.2.2.2.1) z_Event).1 = (2 : Int)))) then
                              bif (decide ((List.getD v.2.1 (Int.toNat v.2.2.2.1) z_Event).1 = (4 : Int))) then
                                bif (decide ((0 : Int) < (((List.length (List.getD v.2.1 (Int.toNat v.2.2.2.1) z_Event).2.2.1) : Nat) : Int))) then
                                  some (Sum.inl ((), false, ()))
                                else
                                  rec ((), v.2.1, (IntKind.wrap .i64 (v.2.2.1 - (List.getD v.2.1 (Int.toNat v.2.2.2.1) z_Event).2.1)), (IntKind.wrap .i64 (v.2.2.2.1 + (1 : Int))), ())
                              else
                                rec ((), v.2.1, (IntKind.wrap .i64 (v.2.2.1 - (List.getD v.2.1 (Int.toNat v.2.2.2.1) z_Event).2.1)), (IntKind.wrap .i64 (v.2.2.2.1 + (1 : Int))), ())
                            else
                              bif (decide ((0 : Int) < (((List.length (List.getD v.2.1 (Int.toNat v.2.2.2.1) z_Event).2.2.1) : Nat) : Int))) then
                                some (Sum.inl ((), false, ()))
                              else
                                rec ((), v.2.1, (IntKind.wrap .i64 (v.2.2.1 - (List.getD v.2.1 (Int.toNat v.2.2.2.1) z_Event).2.1)), (IntKind.wrap .i64 (v.2.2.2.1 + (1 : Int))), ())
                          else
                            some (Sum.inl ((), false, ()))
                        else
                          bif (!(decide ((List.getD v.2.1 (Int.toNat v.2.2.2.1) z_Event).1 = (2 : Int)))) then
                            bif (decide ((List.getD v.2.1 (Int.toNat v.2.2.2.1) z_Event).1 = (4 : Int))) then
                              bif (decide ((0 : Int) < (((List.length (List.getD v.2.1 (Int.toNat v.2.2.2.1) z_Event).2.2.1) : Nat) : Int))) then
                                some (Sum.inl ((), false, ()))
                              else
                                rec ((), v.2.1, (IntKind.wrap .i64 (v.2.2.1 - (List.getD v.2.1 (Int.toNat v.2.2.2.1) z_Event).2.1)), (IntKind.wrap .i64 (v.2.2.2.1 + (1 : Int))), ())
                            else
                              rec ((), v.2.1, (IntKind.wrap .i64 (v.2.2.1 - (List.getD v.2.1 (Int.toNat v.2.2.2.1) z_Event).2.1)), (IntKind.wrap .i64 (v.2.2.2.1 + (1 : Int))), ())
                          else
                            bif (decide ((0 : Int) < (((List.length (List.getD v.2.1 (Int.toNat v.2.2.2.1) z_Event).2.2.1) : Nat) : Int))) then
                              some (Sum.inl ((), false, ()))
                            else
                              rec ((), v.2.1, (IntKind.wrap .i64 (v.2.2.1 - (List.getD v.2.1 (Int.toNat v.2.2.2.1) z_Event).2.1)), (IntKind.wrap .i64 (v.2.2.2.1 + (1 : Int))), ())
                    else
                      some (Sum.inl ((), false, ()))
                  else
                    bif (!(decide ((List.getD v.2.1 (Int.toNat v.2.2.2.1) z_Event).1 = (1 : Int)))) then
                      bif (!(!((decide ((List.getD v.2.1 (Int.toNat v.2.2.2.1) z_Event).2.2.2.1.1 = (0 : Int))) && ((decide ((List.getD v.2.1 (Int.toNat v.2.2.2.1) z_Event).2.2.2.1.2.1 = (0 : Int))) && ((decide ((List.getD v.2.1 (Int.toNat v.2.2.2.1) z_Event).2.2.2.1.2.2.1 = (0 : Int))) && true))))) then
                        bif (!(decide ((List.getD v.2.1 (Int.toNat v.2.2.2.1) z_Event).1 = (2 : Int)))) then
                          bif (decide ((List.getD v.2.1 (Int.toNat v.2.2.2.1) z_Event).1 = (4 : Int))) then
                            bif (decide ((0 : Int) < (((List.length (List.getD v.2.1 (Int.toNat v.2.2.2.1) z_Event).2.2.1) : Nat) : Int))) then
                              some (Sum.inl ((), false, ()))
                            else
                              rec ((), v.2.1, (IntKind.wrap .i64 (v.2.2.1 - (List.getD v.2.1 (Int.toNat v.2.2.2.1) z_Event).2.1)), (IntKind.wrap .i64 (v.2.2.2.1 + (1 : Int))), ())
                          else
                            rec ((), v.2.1, (IntKind.wrap .i64 (v.2.2.1 - (List.getD v.2.1 (Int.toNat v.2.2.2.1) z_Event).2.1)), (IntKind.wrap .i64 (v.2.2.2.1 + (1 : Int))), ())
                        else
                          bif (decide ((0 : Int) < (((List.length (List.getD v.2.1 (Int.toNat v.2.2.2.1) z_Event).2.2.1) : Nat) : Int))) then
                            some (Sum.inl ((), false, ()))
                          else
                            rec ((), v.2.1, (IntKind.wrap .i64 (v.2.2.1 - (List.getD v.2.1 (Int.toNat v.2.2.2.1) z_Event).2.1)), (IntKind.wrap .i64 (v.2.2.2.1 + (1 : Int))), ())
                      else
                        some (Sum.inl ((), false, ()))
                    else
                      bif (!(decide ((List.getD v.2.1 (Int.toNat v.2.2.2.1) z_Event).1 = (2 : Int)))) then
                        bif (decide ((List.getD v.2.1 (Int.toNat v.2.2.2.1) z_Event).1 = (4 : Int))) then
                          bif (decide ((0 : Int) < (((List.length (List.getD v.2.1 (Int.toNat v.2.2.2.1) z_Event).2.2.1) : Nat) : Int))) then
                            some (Sum.inl ((), false, ()))
                          else
                            rec ((), v.2.1, (IntKind.wrap .i64 (v.2.2.1 - (List.getD v.2.1 (Int.toNat v.2.2.2.1) z_Event).2.1)), (IntKind.wrap .i64 (v.2.2.2.1 + (1 : Int))), ())
                        else
                          rec ((), v.2.1, (IntKind.wrap .i64 (v.2.2.1 - (List.getD v.2.1 (Int.toNat v.2.2.2.1) z_Event).2.1)), (IntKind.wrap .i64 (v.2.2.2.1 + (1 : Int))), ())
                      else
                        bif (decide ((0 : Int) < (((List.length (List.getD v.2.1 (Int.toNat v.2.2.2.1) z_Event).2.2.1) : Nat) : Int))) then
                          some (Sum.inl ((), false, ()))
                        else
                          rec ((), v.2.1, (IntKind.wrap .i64 (v.2.2.1 - (List.getD v.2.1 (Int.toNat v.2.2.2.1) z_Event).2.1)), (IntKind.wrap .i64 (v.2.2.2.1 + (1 : Int))), ())
                else
                  some (Sum.inl ((), false, ()))
              else
                bif (decide ((List.getD v.2.1 (Int.toNat v.2.2.2.1) z_Event).1 = (2 : Int))) then
                  bif (!(decide ((List.getD v.2.1 (Int.toNat v.2.2.2.1) z_Event).2.1 < (1 : Int)))) then
                    bif (decide (v.2.2.1 < (List.getD v.2.1 (Int.toNat v.2.2.2.1) z_Event).2.1)) then
                      some (Sum.inl ((), false, ()))
                    else
                      bif (!(decide ((List.getD v.2.1 (Int.toNat v.2.2.2.1) z_Event).1 = (1 : Int)))) then
                        bif (!(!((decide ((List.getD v.2.1 (Int.toNat v.2.2.2.1) z_Event).2.2.2.1.1 = (0 : Int))) && ((decide ((List.getD v.2.1 (Int.toNat v.2.2.2.1) z_Event).2.2.2.1.2.1 = (0 : Int))) && ((decide ((List.getD v.2.1 (Int.toNat v.2.2.2.1) z_Event).2.2.2.1.2.2.1 = (0 : Int))) && true))))) then
                          bif (!(decide ((List.getD v.2.1 (Int.toNat v.2.2.2.1) z_Event).1 = (2 : Int)))) then
                            bif (decide ((List.getD v.2.1 (Int.toNat v.2.2.2.1) z_Event).1 = (4 : Int))) then
                              bif (decide ((0 : Int) < (((List.length (List.getD v.2.1 (Int.toNat v.2.2.2.1) z_Event).2.2.1) : Nat) : Int))) then
                                some (Sum.inl ((), false, ()))
                              else
                                rec ((), v.2.1, (IntKind.wrap .i64 (v.2.2.1 - (List.getD v.2.1 (Int.toNat v.2.2.2.1) z_Event).2.1)), (IntKind.wrap .i64 (v.2.2.2.1 + (1 : Int))), ())
                            else
                              rec ((), v.2.1, (IntKind.wrap .i64 (v.2.2.1 - (List.getD v.2.1 (Int.toNat v.2.2.2.1) z_Event).2.1)), (IntKind.wrap .i64 (v.2.2.2.1 + (1 : Int))), ())
                          else
                            bif (decide ((0 : Int) < (((List.length (List.getD v.2.1 (Int.toNat v.2.2.2.1) z_Event).2.2.1) : Nat) : Int))) then
                              some (Sum.inl ((), false, ()))
                            else
                              rec ((), v.2.1, (IntKind.wrap .i64 (v.2.2.1 - (List.getD v.2.1 (Int.toNat v.2.2.2.1) z_Event).2.1)), (IntKind.wrap .i64 (v.2.2.2.1 + (1 : Int))), ())
                        else
                          some (Sum.inl ((), false, ()))
                      else
                        bif (!(decide ((List.getD v.2.1 (Int.toNat v.2.2.2.1) z_Event).1 = (2 : Int)))) then
                          bif (decide ((List.getD v.2.1 (Int.toNat v.2.2.2.1) z_Event).1 = (4 : Int))) then
                            bif (decide ((0 : Int) < (((List.length (List.getD v.2.1 (Int.toNat v.2.2.2.1) z_Event).2.2.1) : Nat) : Int))) then
                              some (Sum.inl ((), false, ()))
                            else
                              rec ((), v.2.1, (IntKind.wrap .i64 (v.2.2.1 - (List.getD v.2.1 (Int.toNat v.2.2.2.1) z_Event).2.1)), (IntKind.wrap .i64 (v.2.2.2.1 + (1 : Int))), ())
                          else
                            rec ((), v.2.1, (IntKind.wrap .i64 (v.2.2.1 - (List.getD v.2.1 (Int.toNat v.2.2.2.1) z_Event).2.1)), (IntKind.wrap .i64 (v.2.2.2.1 + (1 : Int))), ())
                        else
                          bif (decide ((0 : Int) < (((List.length (List.getD v.2.1 (Int.toNat v.2.2.2.1) z_Event).2.2.1) : Nat) : Int))) then
                            some (Sum.inl ((), false, ()))
                          else
                            rec ((), v.2.1, (IntKind.wrap .i64 (v.2.2.1 - (List.getD v.2.1 (Int.toNat v.2.2.2.1) z_Event).2.1)), (IntKind.wrap .i64 (v.2.2.2.1 + (1 : Int))), ())
                  else
                    some (Sum.inl ((), false, ()))
                else
                  bif (!(decide ((List.getD v.2.1 (Int.toNat v.2.2.2.1) z_Event).1 = (1 : Int)))) then
                    bif (!(!((decide ((List.getD v.2.1 (Int.toNat v.2.2.2.1) z_Event).2.2.2.1.1 = (0 : Int))) && ((decide ((List.getD v.2.1 (Int.toNat v.2.2.2.1) z_Event).2.2.2.1.2.1 = (0 : Int))) && ((decide ((List.getD v.2.1 (Int.toNat v.2.2.2.1) z_Event).2.2.2.1.2.2.1 = (0 : Int))) && true))))) then
                      bif (!(decide ((List.getD v.2.1 (Int.toNat v.2.2.2.1) z_Event).1 = (2 : Int)))) then
                        bif (decide ((List.getD v.2.1 (Int.toNat v.2.2.2.1) z_Event).1 = (4 : Int))) then
                          bif (decide ((0 : Int) < (((List.length (List.getD v.2.1 (Int.toNat v.2.2.2.1) z_Event).2.2.1) : Nat) : Int))) then
                            some (Sum.inl ((), false, ()))
                          else
                            rec ((), v.2.1, (IntKind.wrap .i64 (v.2.2.1 - (List.getD v.2.1 (Int.toNat v.2.2.2.1) z_Event).2.1)), (IntKind.wrap .i64 (v.2.2.2.1 + (1 : Int))), ())
                        else
                          rec ((), v.2.1, (IntKind.wrap .i64 (v.2.2.1 - (List.getD v.2.1 (Int.toNat v.2.2.2.1) z_Event).2.1)), (IntKind.wrap .i64 (v.2.2.2.1 + (1 : Int))), ())
                      else
                        bif (decide ((0 : Int) < (((List.length (List.getD v.2.1 (Int.toNat v.2.2.2.1) z_Event).2.2.1) : Nat) : Int))) then
                          some (Sum.inl ((), false, ()))
                        else
                          rec ((), v.2.1, (IntKind.wrap .i64 (v.2.2.1 - (List.getD v.2.1 (Int.toNat v.2.2.2.1) z_Event).2.1)), (IntKind.wrap .i64 (v.2.2.2.1 + (1 : Int))), ())
                    else
                      some (Sum.inl ((), false, ()))
                  else
                    bif (!(decide ((List.getD v.2.1 (Int.toNat v.2.2.2.1) z_Event).1 = (2 : Int)))) then
                      bif (decide ((List.getD v.2.1 (Int.toNat v.2.2.2.1) z_Event).1 = (4 : Int))) then
                        bif (decide ((0 : Int) < (((List.length (List.getD v.2.1 (Int.toNat v.2.2.2.1) z_Event).2.2.1) : Nat) : Int))) then
                          some (Sum.inl ((), false, ()))
                        else
                          rec ((), v.2.1, (IntKind.wrap .i64 (v.2.2.1 - (List.getD v.2.1 (Int.toNat v.2.2.2.1) z_Event).2.1)), (IntKind.wrap .i64 (v.2.2.2.1 + (1 : Int))), ())
                      else
                        rec ((), v.2.1, (IntKind.wrap .i64 (v.2.2.1 - (List.getD v.2.1 (Int.toNat v.2.2.2.1) z_Event).2.1)), (IntKind.wrap .i64 (v.2.2.2.1 + (1 : Int))), ())
                    else
                      bif (decide ((0 : Int) < (((List.length (List.getD v.2.1 (Int.toNat v.2.2.2.1) z_Event).2.2.1) : Nat) : Int))) then
                        some (Sum.inl ((), false, ()))
                      else
                        rec ((), v.2.1, (IntKind.wrap .i64 (v.2.2.1 - (List.getD v.2.1 (Int.toNat v.2.2.2.1) z_Event).2.1)), (IntKind.wrap .i64 (v.2.2.2.1 + (1 : Int))), ())
          else
            some (Sum.inl ((), false, ()))
        else
          some (Sum.inl ((), false, ()))
      else none
    else none
  else
    some (Sum.inr ((), ()))
def spec_EventsOk (k : Nat) (x0 : (List D_Event)) : Option ((Bool × Unit) × Unit) :=
  bif (decide ((200 : Int) < (((List.length x0) : Nat) : Int))) then
    some ((false, ()), ())
  else
    (iter (spec_EventsOk_s5) k ((), x0, (4000 : Int), (0 : Int), ())).bind fun o1 =>
      Sum.elim (fun a2 =>
        some (a2.2, ()))
      (fun b3 =>
        some ((true, ()), ())) o1
def impl_within (x0 : Int) (x1 : Int) (x2 : Int) : Option ((Bool × Unit) × Unit) :=
  bif (decide (x1 ≤ x0)) then
    some (((decide (x0 ≤ x2)), ()), ())
  else
    some ((false, ()), ())
def impl_eventOk (x0 : D_Event) : Option ((Bool × Unit) × Unit) :=
  bif (decide (x0.1 = (1 : Int))) then
    bif (decide (x0.2.1 = (0 : Int))) then
      some (((decide ((((List.length x0.2.2.1) : Nat) : Int) ≤ (2000 : Int))), ()), ())
    else
      some ((false, ()), ())
  else
    bif (decide (x0.1 = (3 : Int))) then
      bif (decide (x0.2.1 = (0 : Int))) then
        bif (decide ((((List.length x0.2.2.1) : Nat) : Int) ≤ (2000 : Int))) then
          some ((((decide (x0.2.2.2.1.1 = (0 : Int))) && ((decide (x0.2.2.2.1.2.1 = (0 : Int))) && ((decide (x0.2.2.2.1.2.2.1 = (0 : Int))) && true))), ()), ())
        else
          some ((false, ()), ())
      else
        some ((false, ()), ())
    else
      bif (decide (x0.1 = (2 : Int))) then
        (impl_within x0.2.1 (1 : Int) (4000 : Int)).bind fun t1 =>
          bif t1.1.1 then
            bif (decide ((((List.length x0.2.2.1) : Nat) : Int) = (0 : Int))) then
              some ((((decide (x0.2.2.2.1.1 = (0 : Int))) && ((decide (x0.2.2.2.1.2.1 = (0 : Int))) && ((decide (x0.2.2.2.1.2.2.1 = (0 : Int))) && true))), ()), ())
            else
              some ((false, ()), ())
          else
            some ((false, ()), ())
      else
        bif (decide (x0.1 = (4 : Int))) then
          bif (decide (x0.2.1 = (0 : Int))) then
            bif (decide ((((List.length x0.2.2.1) : Nat) : Int) = (0 : Int))) then
              some ((((decide (x0.2.2.2.1.1 = (0 : Int))) && ((decide (x0.2.2.2.1.2.1 = (0 : Int))) && ((decide (x0.2.2.2.1.2.2.1 = (0 : Int))) && true))), ()), ())
            else
              some ((false, ()), ())
          else
            some ((false, ()), ())
        else
          some ((false, ()), ())
def impl_EventsOk_s3 (rec : (Unit × ((List D_Event) × (Int × ((List D_Event) × (Int × (Int × Unit)))))) → Option ((Unit × (Bool × Unit)) ⊕ (Unit × ((List D_Event) × (Int × Unit))))) (v : (Unit × ((List D_Event) × (Int × ((List D_Event) × (Int × (Int × Unit))))))) : Option ((Unit × (Bool × Unit)) ⊕ (Unit × ((List D_Event) × (Int × Unit)))) :=
  bif (decide (v.2.2.2.2.2.1 < v.2.2.2.2.1)) then
    bif ((decide ((0 : Int) ≤ v.2.2.2.2.2.1)) && (decide (v.2.2.2.2.2.1 < (((List.length v.2.2.2.1) : Nat) : Int)))) then
      bif (decide ((Int.toNat v.2.2.2.2.2.1) < (List.length v.2.2.2.1))) then
        (impl_eventOk (List.getD v.2.2.2.1 (Int.toNat v.2.2.2.2.2.1) z_Event)).bind fun t1 =>
          bif (!t1.1.1) then
            some (Sum.inl ((), false, ()))
          else
            rec ((), v.2.1, (IntKind.wrap .i64 (v.2.2.1 + (List.getD v.2.2.2.1 (Int.toNat v.2.2.2.2.2.1) z_Event).2.1)), v.2.2.2.1, v.2.2.2.2.1, (IntKind.wrap .i64 (v.2.2.2.2.2.1 + (1 : Int))), ())
      else none
    else none
  else
    some (Sum.inr ((), v.2.1, v.2.2.1, ()))
def impl_EventsOk (k : Nat) (x0 : (List D_Event)) : Option ((Bool × Unit) × Unit) :=
  (iter (impl_EventsOk_s3) k ((), x0, (0 : Int), x0, (((List.length x0) : Nat) : Int), (0 : Int), ())).bind fun o1 =>
    Sum.elim (fun a2 =>
      some (a2.2, ()))
    (fun b3 =>
      bif (decide ((((List.length b3.2.1) : Nat) : Int) ≤ (200 : Int))) then
        some (((decide (b3.2.2.1 ≤ (4000 : Int))), ()), ())
      else
        some ((false, ()), ())) o1
def laws_eqByteS_s4 (rec : (Unit × ((List Int) × ((List Int) × (Int × Unit)))) → Option ((Unit × (Bool × Unit)) ⊕ (Unit × Unit))) (v : (Unit × ((List Int) × ((List Int) × (Int × Unit))))) : Option ((Unit × (Bool × Unit)) ⊕ (Unit × Unit)) :=
  bif (decide (v.2.2.2.1 < (((List.length v.2.1) : Nat) : Int))) then
    bif ((decide ((0 : Int) ≤ v.2.2.2.1)) && (decide (v.2.2.2.1 < (((List.length v.2.1) : Nat) : Int)))) then
      bif (decide ((Int.toNat v.2.2.2.1) < (List.length v.2.1))) then
        bif ((decide ((0 : Int) ≤ v.2.2.2.1)) && (decide (v.2.2.2.1 < (((List.length v.2.2.1) : Nat) : Int)))) then
          bif (decide ((Int.toNat v.2.2.2.1) < (List.length v.2.2.1))) then
            bif (!(decide ((List.getD v.2.1 (Int.toNat v.2.2.2.1) (0 : Int)) = (List.getD v.2.2.1 (Int.toNat v.2.2.2.1) (0 : Int))))) then
              some (Sum.inl ((), false, ()))
            else
              rec ((), v.2.1, v.2.2.1, (IntKind.wrap .i64 (v.2.2.2.1 + (1 : Int))), ())
          else none
        else none
      else none
    else none
  else
    some (Sum.inr ((), ()))
def laws_eqByteS (k : Nat) (x0 : (List Int)) (x1 : (List Int)) : Option ((Bool × Unit) × Unit) :=
  bif (!(decide ((((List.length x0) : Nat) : Int) = (((List.length x1) : Nat) : Int)))) then
    some ((false, ()), ())
  else
    (iter (laws_eqByteS_s4) k ((), x0, x1, (0 : Int), ())).bind fun o1 =>
      Sum.elim (fun a2 =>
        some (a2.2, ()))
      (fun b3 =>
        some ((true, ()), ())) o1
def laws_eqVec (x0 : D_Vec) (x1 : D_Vec) : Option ((Bool × Unit) × Unit) :=
  bif (!(decide (x0.1 = x1.1))) then
    some ((false, ()), ())
  else
    bif (!(decide (x0.2.1 = x1.2.1))) then
      some ((false, ()), ())
    else
      bif (!(decide (x0.2.2.1 = x1.2.2.1))) then
        some ((false, ()), ())
      else
        some ((true, ()), ())
def laws_eqEvent (k : Nat) (x0 : D_Event) (x1 : D_Event) : Option ((Bool × Unit) × Unit) :=
  bif (!(decide (x0.1 = x1.1))) then
    some ((false, ()), ())
  else
    bif (!(decide (x0.2.1 = x1.2.1))) then
      some ((false, ()), ())
    else
      (laws_eqByteS k x0.2.2.1 x1.2.2.1).bind fun t1 =>
        bif (!t1.1.1) then
          some ((false, ()), ())
        else
          (laws_eqVec x0.2.2.2.1 x1.2.2.2.1).bind fun t2 =>
            bif (!t2.1.1) then
              some ((false, ()), ())
            else
              some ((true, ()), ())
def laws_eqEventS_s4 (k : Nat) (rec : (Unit × ((List D_Event) × ((List D_Event) × (Int × Unit)))) → Option ((Unit × (Bool × Unit)) ⊕ (Unit × Unit))) (v : (Unit × ((List D_Event) × ((List D_Event) × (Int × Unit))))) : Option ((Unit × (Bool × Unit)) ⊕ (Unit × Unit)) :=
  bif (decide (v.2.2.2.1 < (((List.length v.2.1) : Nat) : Int))) then
    bif ((decide ((0 : Int) ≤ v.2.2.2.1)) && (decide (v.2.2.2.1 < (((List.length v.2.1) : Nat) : Int)))) then
      bif (decide ((Int.toNat v.2.2.2.1) < (List.length v.2.1))) then
        bif ((decide ((0 : Int) ≤ v.2.2.2.1)) && (decide (v.2.2.2.1 < (((List.length v.2.2.1) : Nat) : Int)))) then
          bif (decide ((Int.toNat v.2.2.2.1) < (List.length v.2.2.1))) then
            (laws_eqEvent k (List.getD v.2.1 (Int.toNat v.2.2.2.1) z_Event) (List.getD v.2.2.1 (Int.toNat v.2.2.2.1) z_Event)).bind fun t1 =>
              bif (!t1.1.1) then
                some (Sum.inl ((), false, ()))
              else
                rec ((), v.2.1, v.2.2.1, (IntKind.wrap .i64 (v.2.2.2.1 + (1 : Int))), ())
          else none
        else none
      else none
    else none
  else
    some (Sum.inr ((), ()))
def laws_eqEventS (k : Nat) (x0 : (List D_Event)) (x1 : (List D_Event)) : Option ((Bool × Unit) × Unit) :=
  bif (!(decide ((((List.length x0) : Nat) : Int) = (((List.length x1) : Nat) : Int)))) then
    some ((false, ()), ())
  else
    (iter (laws_eqEventS_s4 k) k ((), x0, x1, (0 : Int), ())).bind fun o1 =>
      Sum.elim (fun a2 =>
        some (a2.2, ()))
      (fun b3 =>
        some ((true, ()), ())) o1
def laws_FnExactEventsOk (k : Nat) (x0 : (List D_Event)) : Option ((Bool × Unit) × Unit) :=
  (laws_szEventS k x0 (1048576 : Int)).bind fun t1 =>
    bif (decide (t1.1.1 < (0 : Int))) then
      some ((true, ()), ())
    else
      (laws_toEventS k x0).bind fun t2 =>
        (spec_EventsOk k t2.1.1).bind fun t3 =>
          (laws_toEventS k x0).bind fun t4 =>
            (impl_EventsOk k t4.1.1).bind fun t5 =>
              bif (!(t5.1.1 == t3.1.1)) then
                some ((false, ()), ())
              else
                (laws_toEventS k x0).bind fun t6 =>
                  (laws_eqEventS k t4.1.1 t6.1.1).bind fun t7 =>
                    bif (!t7.1.1) then
                      some ((false, ()), ())
                    else
                      some ((true, ()), ())
def spec_l24Frame_s3 (rec : (Unit × ((List D_Event) × D_Vec)) → Option ((Unit × (Int × Unit)) ⊕ (Unit × Unit))) (v : (Unit × ((List D_Event) × D_Vec))) : Option ((Unit × (Int × Unit)) ⊕ (Unit × Unit)) :=
  bif (decide (v.2.2.2.2.1 < (((List.length v.2.1) : Nat) : Int))) then
    bif ((decide ((0 : Int) ≤ v.2.2.2.2.1)) && (decide (v.2.2.2.2.1 < (((List.length v.2.1) : Nat) : Int)))) then
      bif (decide ((Int.toNat v.2.2.2.2.1) < (List.length v.2.1))) then
        bif (decide ((List.getD v.2.1 (Int.toNat v.2.2.2.2.1) z_Event).1 = (1 : Int))) then
          bif (decide ((IntKind.wrap .i64 (v.2.2.2.1 + (1 : Int))) = v.2.2.1)) then
            some (Sum.inl ((), v.2.2.2.2))
          else
            rec ((), v.2.1, v.2.2.1, (IntKind.wrap .i64 (v.2.2.2.1 + (1 : Int))), (IntKind.wrap .i64 (v.2.2.2.2.1 + (1 : Int))), ())
        else
          rec ((), v.2.1, v.2.2.1, v.2.2.2.1, (IntKind.wrap .i64 (v.2.2.2.2.1 + (1 : Int))), ())
      else none
    else none
  else
    some (Sum.inr ((), ()))
def spec_l24Frame (k : Nat) (x0 : (List D_Event)) (x1 : Int) : Option ((Int × Unit) × Unit) :=
  (iter (spec_l24Frame_s3) k ((), x0, x1, (-1 : Int), (0 : Int), ())).bind fun o1 =>
    Sum.elim (fun a2 =>
      some (a2.2, ()))
    (fun b3 =>
      some (((-1 : Int), ()), ())) o1
def spec_FrameAt (k : Nat) (x0 : (List D_Event)) (x1 : Int) : Option ((Int × Unit) × Unit) :=
  (spec_EventsOk k x0).bind fun t1 =>
    bif (!t1.1.1) then
      some (((-1 : Int), ()), ())
    else
      (spec_l24Frame k x0 x1).bind fun t2 =>
        some (t2.1, ())
def impl_frameAt_s2 (rec : (Unit × (Int × ((List D_Event) × (Int × (Int × Unit))))) → Option ((Unit × (Int × Unit)) ⊕ (Unit × Unit))) (v : (Unit × (Int × ((List D_Event) × (Int × (Int × Unit)))))) : Option ((Unit × (Int × Unit)) ⊕ (Unit × Unit)) :=
  bif (decide (v.2.2.2.2.1 < v.2.2.2.1)) then
    bif ((decide ((0 : Int) ≤ v.2.2.2.2.1)) && (decide (v.2.2.2.2.1 < (((List.length v.2.2.1) : Nat) : Int)))) then
      bif (decide ((Int.toNat v.2.2.2.2.1) < (List.length v.2.2.1))) then
        bif (!(decide ((List.getD v.2.2.1 (Int.toNat v.2.2.2.2.1) z_Event).1 = (1 : Int)))) then
          rec ((), v.2.1, v.2.2.1, v.2.2.2.1, (IntKind.wrap .i64 (v.2.2.2.2.1 + (1 : Int))), ())
        else
          bif (decide (v.2.1 = (0 : Int))) then
            some (Sum.inl ((), v.2.2.2.2))
          else
            rec ((), (IntKind.wrap .i64 (v.2.1 - (1 : Int))), v.2.2.1, v.2.2.2.1, (IntKind.wrap .i64 (v.2.2.2.2.1 + (1 : Int))), ())
      else none
    else none
  else
    some (Sum.inr ((), ()))
def impl_frameAt (k : Nat) (x0 : (List D_Event)) (x1 : Int) : Option ((Int × Unit) × Unit) :=
  (iter (impl_frameAt_s2) k ((), x1, x0, (((List.length x0) : Nat) : Int), (0 : Int), ())).bind fun o1 =>
    Sum.elim (fun a2 =>
      some (a2.2, ()))
    (fun b3 =>
      some (((-1 : Int), ()), ())) o1
def impl_FrameAt (k : Nat) (x0 : (List D_Event)) (x1 : Int) : Option ((Int × Unit) × Unit) :=
  (impl_EventsOk k x0).bind fun t1 =>
    bif (!t1.1.1) then
      some (((-1 : Int), ()), ())
    else
      (impl_frameAt k x0 x1).bind fun t2 =>
        some (t2.1, ())
def laws_FnExactFrameAt (k : Nat) (x0 : (List D_Event)) (x1 : Int) : Option ((Bool × Unit) × Unit) :=
  (laws_szEventS k x0 (1048576 : Int)).bind fun t1 =>
    bif (decide (t1.1.1 < (0 : Int))) then
      some ((true, ()), ())
    else
      (laws_toEventS k x0).bind fun t2 =>
        (spec_FrameAt k t2.1.1 x1).bind fun t3 =>
          (laws_toEventS k x0).bind fun t4 =>
            (impl_FrameAt k t4.1.1 x1).bind fun t5 =>
              bif (!(decide (t5.1.1 = t3.1.1))) then
                some ((false, ()), ())
              else
                (laws_toEventS k x0).bind fun t6 =>
                  (laws_eqEventS k t4.1.1 t6.1.1).bind fun t7 =>
                    bif (!t7.1.1) then
                      some ((false, ()), ())
                    else
                      some ((true, ()), ())
def laws_szIntS (x0 : (List Int)) (x1 : Int) : Option ((Int × Unit) × Unit) :=
  bif (decide ((IntKind.wrap .i64 (x1 - (((List.length x0) : Nat) : Int))) < (0 : Int))) then
    some (((-1 : Int), ()), ())
  else
    some (((IntKind.wrap .i64 (x1 - (((List.length x0) : Nat) : Int))), ()), ())
def laws_szOut (x0 : D_Out) (x1 : Int) : Option ((Int × Unit) × Unit) :=
  (laws_szByteS x0.2.2.2.1 x1).bind fun t1 =>
    bif (decide (t1.1.1 < (0 : Int))) then
      some (((-1 : Int), ()), ())
    else
      (laws_szIntS x0.2.2.2.2.1 t1.1.1).bind fun t2 =>
        bif (decide (t2.1.1 < (0 : Int))) then
          some (((-1 : Int), ()), ())
        else
          some (t2.1, ())
def laws_szOutS_s5 (rec : (Unit × ((List D_Out) × (Int × (Int × Unit)))) → Option ((Unit × (Int × Unit)) ⊕ (Unit × (Int × Unit)))) (v : (Unit × ((List D_Out) × (Int × (Int × Unit))))) : Option ((Unit × (Int × Unit)) ⊕ (Unit × (Int × Unit))) :=
  bif (decide (v.2.2.2.1 < (((List.length v.2.1) : Nat) : Int))) then
    bif ((decide ((0 : Int) ≤ v.2.2.2.1)) && (decide (v.2.2.2.1 < (((List.length v.2.1) : Nat) : Int)))) then
      bif (decide ((Int.toNat v.2.2.2.1) < (List.length v.2.1))) then
        (laws_szOut (List.getD v.2.1 (Int.toNat v.2.2.2.1) z_Out) v.2.2.1).bind fun t1 =>
          bif (decide (t1.1.1 < (0 : Int))) then
            some (Sum.inl ((), (-1 : Int), ()))
          else
            rec ((), v.2.1, t1.1.1, (IntKind.wrap .i64 (v.2.2.2.1 + (1 : Int))), ())
      else none
    else none
  else
    some (Sum.inr ((), v.2.2.1, ()))
def laws_szOutS (k : Nat) (x0 : (List D_Out)) (x1 : Int) : Option ((Int × Unit) × Unit) :=
  bif (decide ((IntKind.wrap .i64 (x1 - (((List.length x0) : Nat) : Int))) < (0 : Int))) then
    some (((-1 : Int), ()), ())
  else
    (iter (laws_szOutS_s5) k ((), x0, (IntKind.wrap .i64 (x1 - (((List.length x0) : Nat) : Int))), (0 : Int), ())).bind fun o1 =>
      Sum.elim (fun a2 =>
        some (a2.2, ()))
      (fun b3 =>
        some (b3.2, ())) o1
def laws_toIntS_s3 (rec : (Unit × ((List Int) × ((List Int) × (Int × Unit)))) → Option ((Unit × ((List Int) × Unit)))) (v : (Unit × ((List Int) × ((List Int) × (Int × Unit))))) : Option ((Unit × ((List Int) × Unit))) :=
  bif (decide (v.2.2.2.1 < (((List.length v.2.1) : Nat) : Int))) then
    bif ((decide ((0 : Int) ≤ v.2.2.2.1)) && (decide (v.2.2.2.1 < (((List.length v.2.1) : Nat) : Int)))) then
      bif (decide ((Int.toNat v.2.2.2.1) < (List.length v.2.1))) then
        bif ((decide ((0 : Int) ≤ v.2.2.2.1)) && (decide (v.2.2.2.1 < (((List.length v.2.2.1) : Nat) : Int)))) then
          bif (decide ((Int.toNat v.2.2.2.1) < (List.length v.2.2.1))) then
            let y1 : (List Int) := (List.set v.2.2.1 (Int.toNat v.2.2.2.1) (List.getD v.2.1 (Int.toNat v.2.2.2.1) (0 : Int)))
            rec ((), v.2.1, y1, (IntKind.wrap .i64 (v.2.2.2.1 + (1 : Int))), ())
          else none
        else none
      else none
    else none
  else
    some ((), v.2.2.1, ())
def laws_toIntS (k : Nat) (x0 : (List Int)) : Option (((List Int) × Unit) × Unit) :=
  bif (((decide ((0 : Int) ≤ (((List.length x0) : Nat) : Int))) && (decide ((((List.length x0) : Nat) : Int) ≤ (((List.length x0) : Nat) : Int)))) && (decide (((8 : Int) * (((List.length x0) : Nat) : Int)) ≤ (1099511627776 : Int)))) then
    (iter (laws_toIntS_s3) k ((), x0, (List.replicate (List.length x0) (0 : Int)), (0 : Int), ())).bind fun o1 =>
      some (o1.2, ())
  else none
def laws_toOut (k : Nat) (x0 : D_Out) : Option ((D_Out × Unit) × Unit) :=
  (laws_toByteS k x0.2.2.2.1).bind fun t1 =>
    (laws_toIntS k x0.2.2.2.2.1).bind fun t2 =>
      some (((x0.1, x0.2.1, x0.2.2.1, t1.1.1, t2.1), ()), ())
def laws_toOutS_s3 (k : Nat) (rec : (Unit × ((List D_Out) × ((List D_Out) × (Int × Unit)))) → Option ((Unit × ((List D_Out) × Unit)))) (v : (Unit × ((List D_Out) × ((List D_Out) × (Int × Unit))))) : Option ((Unit × ((List D_Out) × Unit))) :=
  bif (decide (v.2.2.2.1 < (((List.length v.2.1) : Nat) : Int))) then
    bif ((decide ((0 : Int) ≤ v.2.2.2.1)) && (decide (v.2.2.2.1 < (((List.length v.2.1) : Nat) : Int)))) then
      bif (decide ((Int.toNat v.2.2.2.1) < (List.length v.2.1))) then
        (laws_toOut k (List.getD v.2.1 (Int.toNat v.2.2.2.1) z_Out)).bind fun t1 =>
          bif ((decide ((0 : Int) ≤ v.2.2.2.1)) && (decide (v.2.2.2.1 < (((List.length v.2.2.1) : Nat) : Int)))) then
            bif (decide ((Int.toNat v.2.2.2.1) < (List.length v.2.2.1))) then
              let y2 : (List D_Out) := (List.set v.2.2.1 (Int.toNat v.2.2.2.1) t1.1.1)
              rec ((), v.2.1, y2, (IntKind.wrap .i64 (v.2.2.2.1 + (1 : Int))), ())
            else none
          else none
      else none
    else none
  else
    some ((), v.2.2.1, ())
def laws_toOutS (k : Nat) (x0 : (List D_Out)) : Option (((List D_Out) × Unit) × Unit) :=
  bif (((decide ((0 : Int) ≤ (((List.length x0) : Nat) : Int))) && (decide ((((List.length x0) : Nat) : Int) ≤ (((List.length x0) : Nat) : Int)))) && (decide (((72 : Int) * (((List.length x0) : Nat) : Int)) ≤ (1099511627776 : Int)))) then
    (iter (laws_toOutS_s3 k) k ((), x0, (List.replicate (List.length x0) ((0 : Int), (0 : Int), (0 : Int), ([] : List Int), ([] : List Int), ())), (0 : Int), ())).bind fun o1 =>
      some (o1.2, ())
  else none
def spec_l24Few (x0 : (List D_Out)) : Option ((Bool × Unit) × Unit) :=
  some (((decide ((((List.length x0) : Nat) : Int) ≤ (2000 : Int))), ()), ())
def spec_Tally_s5 (rec : (Unit × ((List D_Out) × ((List Int) × (Int × Unit)))) → Option ((Unit × ((List Int) × Unit)))) (v : (Unit × ((List D_Out) × ((List Int) × (Int × Unit))))) : Option ((Unit × ((List Int) × Unit))) :=
  bif (decide (v.2.2.2.1 < (((List.length v.2.1) : Nat) : Int))) then
    bif ((decide ((0 : Int) ≤ v.2.2.2.1)) && (decide (v.2.2.2.1 < (((List.length v.2.1) : Nat) : Int)))) then
      bif (decide ((Int.toNat v.2.2.2.1) < (List.length v.2.1))) then
        bif (decide ((List.getD v.2.1 (Int.toNat v.2.2.2.1) z_Out).1 = (1 : Int))) then
          bif (decide ((0 : Int) < (((List.length v.2.2.1) : Nat) : Int))) then
            bif (decide ((0 : Nat) < (List.length v.2.2.1))) then
              bif (decide ((0 : Int) < (((List.length v.2.2.1) : Nat) : Int))) then
                bif (decide ((0 : Nat) < (List.length v.2.2.1))) then
                  let y2 : (List Int) := (List.set v.2.2.1 (0 : Nat) (IntKind.wrap .i64 ((List.getD v.2.2.1 (0 : Nat) (0 : Int)) + (1 : Int))))
                  rec ((), v.2.1, y2, (IntKind.wrap .i64 (v.2.2.2.1 + (1 : Int))), ())
                else none
              else none
            else none
          else none
        else
          bif (decide ((List.getD v.2.1 (Int.toNat v.2.2.2.1) z_Out).1 = (2 : Int))) then
            bif (decide ((1 : Int) ≤ (List.getD v.2.1 (Int.toNat v.2.2.2.1) z_Out).2.2.1)) then
              bif (decide ((List.getD v.2.1 (Int.toNat v.2.2.2.1) z_Out).2.2.1 ≤ (10 : Int))) then
                bif ((decide ((0 : Int) ≤ (List.getD v.2.1 (Int.toNat v.2.2.2.1) z_Out).2.2.1)) && (decide ((List.getD v.2.1 (Int.toNat v.2.2.2.1) z_Out).2.2.1 < (((List.length v.2.2.1) : Nat) : Int)))) then
                  bif (decide ((Int.toNat (List.getD v.2.1 (Int.toNat v.2.2.2.1) z_Out).2.2.1) < (List.length v.2.2.1))) then
                    bif ((decide ((0 : Int) ≤ (List.getD v.2.1 (Int.toNat v.2.2.2.1) z_Out).2.2.1)) && (decide ((List.getD v.2.1 (Int.toNat v.2.2.2.1) z_Out).2.2.1 < (((List.length v.2.2.1) : Nat) : Int)))) then
                      bif (decide ((Int.toNat (List.getD v.2.1 (Int.toNat v.2.2.2.1) z_Out).2.2.1) < (List.length v.2.2.1))) then
                        let y3 : (List Int) := (List.set v.2.2.1 (Int.toNat (List.getD v.2.1 (Int.toNat v.2.2.2.1) z_Out).2.2.1) (IntKind.wrap .i64 ((List.getD v.2.2.1 (Int.toNat (List.getD v.2.1 (Int.toNat v.2.2.2.1) z_Out).2.2.1) (0 : Int)) + (1 : Int))))
                        rec ((), v.2.1, y3, (IntKind.wrap .i64 (v.2.2.2.1 + (1 : Int))), ())
                      else none
                    else none
                  else none
                else none
              else
                rec ((), v.2.1, v.2.2.1, (IntKind.wrap .i64 (v.2.2.2.1 + (1 : Int))), ())
            else
              rec ((), v.2.1, v.2.2.1, (IntKind.wrap .i64 (v.2.2.2.1 + (1 : Int))), ())
          else
            bif (decide ((List.getD v.2.1 (Int.toNat v.2.2.2.1) z_Out).1 = (3 : Int))) then
              bif (decide ((List.getD v.2.1 (Int.toNat v.2.2.2.1) z_Out).2.2.1 = (0 : Int))) then
                bif (decide ((11 : Int) < (((List.length v.2.2.1) : Nat) : Int))) then
                  bif (decide ((11 : Nat) < (List.length v.2.2.1))) then
                    bif (decide ((11 : Int) < (((List.length v.2.2.1) : Nat) : Int))) then
                      bif (decide ((11 : Nat) < (List.length v.2.2.1))) then
                        let y4 : (List Int) := (List.set v.2.2.1 (11 : Nat) (IntKind.wrap .i64 ((List.getD v.2.2.1 (11 : Nat) (0 : Int)) + (1 : Int))))
                        rec ((), v.2.1, y4, (IntKind.wrap .i64 (v.2.2.2.1 + (1 : Int))), ())
                      else none
                    else none
                  else none
                else none
              else
                bif (decide ((12 : Int) < (((List.length v.2.2.1) : Nat) : Int))) then
                  bif (decide ((12 : Nat) < (List.length v.2.2.1))) then
                    bif (decide ((12 : Int) < (((List.length v.2.2.1) : Nat) : Int))) then
                      bif (decide ((12 : Nat) < (List.length v.2.2.1))) then
                        let y5 : (List Int) := (List.set v.2.2.1 (12 : Nat) (IntKind.wrap .i64 ((List.getD v.2.2.1 (12 : Nat) (0 : Int)) + (1 : Int))))
                        rec ((), v.2.1, y5, (IntKind.wrap .i64 (v.2.2.2.1 + (1 : Int))), ())
                      else none
                    else none
                  else none
                else none
            else
              bif (decide ((List.getD v.2.1 (Int.toNat v.2.2.2.1) z_Out).1 = (4 : Int))) then
                bif (decide ((13 : Int) < (((List.length v.2.2.1) : Nat) : Int))) then
                  bif (decide ((13 : Nat) < (List.length v.2.2.1))) then
                    bif (decide ((13 : Int) < (((List.length v.2.2.1) : Nat) : Int))) then
                      bif (decide ((13 : Nat) < (List.length v.2.2.1))) then
                        let y6 : (List Int) := (List.set v.2.2.1 (13 : Nat) (IntKind.wrap .i64 ((List.getD v.2.2.1 (13 : Nat) (0 : Int)) + (1 : Int))))
                        rec ((), v.2.1, y6, (IntKind.wrap .i64 (v.2.2.2.1 + (1 : Int))), ())
                      else none
                    else none
                  else none
                else none
              else
                rec ((), v.2.1, v.2.2.1, (IntKind.wrap .i64 (v.2.2.2.1 + (1 : Int))), ())
      else none
    else none
  else
    some ((), v.2.2.1, ())
def spec_Tally (k : Nat) (x0 : (List D_Out)) : Option (((List Int) × Unit) × Unit) :=
  (spec_l24Few x0).bind fun t1 =>
    bif (!t1.1.1) then
      some ((([] : List Int), ()), ())
    else
      (iter (spec_Tally_s5) k ((), x0, ([(0 : Int), (0 : Int), (0 : Int), (0 : Int), (0 : Int), (0 : Int), (0 : Int), (0 : Int), (0 : Int), (0 : Int), (0 : Int), (0 : Int), (0 : Int), (0 : Int)] : List Int), (0 : Int), ())).bind fun o2 =>
        some (o2.2, ())
def impl_Tally_s5 (rec : (Unit × ((List Int) × ((List D_Out) × (Int × (Int × Unit))))) → Option ((Unit × ((List Int) × Unit)))) (v : (Unit × ((List Int) × ((List D_Out) × (Int × (Int × Unit)))))) : Option ((Unit × ((List Int) × Unit))) :=
  bif (decide (v.2.2.2.2.1 < v.2.2.2.1)) then
    bif ((decide ((0 : Int) ≤ v.2.2.2.2.1)) && (decide (v.2.2.2.2.1 < (((List.length v.2.2.1) : Nat) : Int)))) then
      bif (decide ((Int.toNat v.2.2.2.2.1) < (List.length v.2.2.1))) then
        bif (decide ((List.getD v.2.2.1 (Int.toNat v.2.2.2.2.1) z_Out).1 = (1 : Int))) then
          bif (decide ((0 : Int) < (((List.length v.2.1) : Nat) : Int))) then
            bif (decide ((0 : Nat) < (List.length v.2.1))) then
              bif (decide ((0 : Int) < (((List.length v.2.1) : Nat) : Int))) then
                bif (decide ((0 : Nat) < (List.length v.2.1))) then
                  let y1 : (List Int) := (List.set v.2.1 (0 : Nat) (IntKind.wrap .i64 ((List.getD v.2.1 (0 : Nat) (0 : Int)) + (1 : Int))))
                  rec ((), y1, v.2.2.1, v.2.2.2.1, (IntKind.wrap .i64 (v.2.2.2.2.1 + (1 : Int))), ())
                else none
              else none
            else none
          else none
        else
          bif (decide ((List.getD v.2.2.1 (Int.toNat v.2.2.2.2.1) z_Out).1 = (2 : Int))) then
            (impl_within (List.getD v.2.2.1 (Int.toNat v.2.2.2.2.1) z_Out).2.2.1 (1 : Int) (10 : Int)).bind fun t2 =>
              bif t2.1.1 then
                bif ((decide ((0 : Int) ≤ (List.getD v.2.2.1 (Int.toNat v.2.2.2.2.1) z_Out).2.2.1)) && (decide ((List.getD v.2.2.1 (Int.toNat v.2.2.2.2.1) z_Out).2.2.1 < (((List.length v.2.1) : Nat) : Int)))) then
                  bif (decide ((Int.toNat (List.getD v.2.2.1 (Int.toNat v.2.2.2.2.1) z_Out).2.2.1) < (List.length v.2.1))) then
                    bif ((decide ((0 : Int) ≤ (List.getD v.2.2.1 (Int.toNat v.2.2.2.2.1) z_Out).2.2.1)) && (decide ((List.getD v.2.2.1 (Int.toNat v.2.2.2.2.1) z_Out).2.2.1 < (((List.length v.2.1) : Nat) : Int)))) then
                      bif (decide ((Int.toNat (List.getD v.2.2.1 (Int.toNat v.2.2.2.2.1) z_Out).2.2.1) < (List.length v.2.1))) then
                        let y3 : (List Int) := (List.set v.2.1 (Int.toNat (List.getD v.2.2.1 (Int.toNat v.2.2.2.2.1) z_Out).2.2.1) (IntKind.wrap .i64 ((List.getD v.2.1 (Int.toNat (List.getD v.2.2.1 (Int.toNat v.2.2.2.2.1) z_Out).2.2.1) (0 : Int)) + (1 : Int))))
                        rec ((), y3, v.2.2.1, v.2.2.2.1, (IntKind.wrap .i64 (v.2.2.2.2.1 + (1 : Int))), ())
                      else none
                    else none
                  else none
                else none
              else
                bif (decide ((List.getD v.2.2.1 (Int.toNat v.2.2.2.2.1) z_Out).1 = (3 : Int))) then
                  bif (decide ((List.getD v.2.2.1 (Int.toNat v.2.2.2.2.1) z_Out).2.2.1 = (0 : Int))) then
                    bif (decide ((11 : Int) < (((List.length v.2.1) : Nat) : Int))) then
                      bif (decide ((11 : Nat) < (List.length v.2.1))) then
                        bif (decide ((11 : Int) < (((List.length v.2.1) : Nat) : Int))) then
                          bif (decide ((11 : Nat) < (List.length v.2.1))) then
                            let y4 : (List Int) := (List.set v.2.1 (11 : Nat) (IntKind.wrap .i64 ((List.getD v.2.1 (11 : Nat) (0 : Int)) + (1 : Int))))
                            rec ((), y4, v.2.2.1, v.2.2.2.1, (IntKind.wrap .i64 (v.2.2.2.2.1 + (1 : Int))), ())
                          else none
                        else none
                      else none
                    else none
                  else
                    bif (decide ((List.getD v.2.2.1 (Int.toNat v.2.2.2.2.1) z_Out).1 = (3 : Int))) then
                      bif (decide ((12 : Int) < (((List.length v.2.1) : Nat) : Int))) then
                        bif (decide ((12 : Nat) < (List.length v.2.1))) then
                          bif (decide ((12 : Int) < (((List.length v.2.1) : Nat) : Int))) then
                            bif (decide ((12 : Nat) < (List.length v.2.1))) then
                              let y5 : (List Int) := (List.set v.2.1 (12 : Nat) (IntKind.wrap .i64 ((List.getD v.2.1 (12 : Nat) (0 : Int)) + (1 : Int))))
                              rec ((), y5, v.2.2.1, v.2.2.2.1, (IntKind.wrap .i64 (v.2.2.2.2.1 + (1 : Int))), ())
                            else none
                          else none
                        else none
                      else none
                    else
                      bif (decide ((List.getD v.2.2.1 (Int.toNat v.2.2.2.2.1) z_Out).1 = (4 : Int))) then
                        bif (decide ((13 : Int) < (((List.length v.2.1) : Nat) : Int))) then
                          bif (decide ((13 : Nat) < (List.length v.2.1))) then
                            bif (decide ((13 : Int) < (((List.length v.2.1) : Nat) : Int))) then
                              bif (decide ((13 : Nat) < (List.length v.2.1))) then
                                let y6 : (List Int) := (List.set v.2.1 (13 : Nat) (IntKind.wrap .i64 ((List.getD v.2.1 (13 : Nat) (0 : Int)) + (1 : Int))))
                                rec ((), y6, v.2.2.1, v.2.2.2.1, (IntKind.wrap .i64 (v.2.2.2.2.1 + (1 : Int))), ())
                              else none
                            else none
                          else none
                        else none
                      else
                        rec ((), v.2.1, v.2.2.1, v.2.2.2.1, (IntKind.wrap .i64 (v.2.2.2.2.1 + (1 : Int))), ())
                else
                  bif (decide ((List.getD v.2.2.1 (Int.toNat v.2.2.2.2.1) z_Out).1 = (3 : Int))) then
                    bif (decide ((12 : Int) < (((List.length v.2.1) : Nat) : Int))) then
                      bif (decide ((12 : Nat) < (List.length v.2.1))) then
                        bif (decide ((12 : Int) < (((List.length v.2.1) : Nat) : Int))) then
                          bif (decide ((12 : Nat) < (List.length v.2.1))) then
                            let y7 : (List Int) := (List.set v.2.1 (12 : Nat) (IntKind.wrap .i64 ((List.getD v.2.1 (12 : Nat) (0 : Int)) + (1 : Int))))
                            rec ((), y7, v.2.2.1, v.2.2.2.1, (IntKind.wrap .i64 (v.2.2.2.2.1 + (1 : Int))), ())
                          else none
                        else none
                      else none
                    else none
                  else
                    bif (decide ((List.getD v.2.2.1 (Int.toNat v.2.2.2.2.1) z_Out).1 = (4 : Int))) then
                      bif (decide ((13 : Int) < (((List.length v.2.1) : Nat) : Int))) then
                        bif (decide ((13 : Nat) < (List.length v.2.1))) then
                          bif (decide ((13 : Int) < (((List.length v.2.1) : Nat) : Int))) then
                            bif (decide ((13 : Nat) < (List.length v.2.1))) then
                              let y8 : (List Int) := (List.set v.2.1 (13 : Nat) (IntKind.wrap .i64 ((List.getD v.2.1 (13 : Nat) (0 : Int)) + (1 : Int))))
                              rec ((), y8, v.2.2.1, v.2.2.2.1, (IntKind.wrap .i64 (v.2.2.2.2.1 + (1 : Int))), ())
                            else none
                          else none
                        else none
                      else none
                    else
                      rec ((), v.2.1, v.2.2.1, v.2.2.2.1, (IntKind.wrap .i64 (v.2.2.2.2.1 + (1 : Int))), ())
          else
            bif (decide ((List.getD v.2.2.1 (Int.toNat v.2.2.2.2.1) z_Out).1 = (3 : Int))) then
              bif (decide ((List.getD v.2.2.1 (Int.toNat v.2.2.2.2.1) z_Out).2.2.1 = (0 : Int))) then
                bif (decide ((11 : Int) < (((List.length v.2.1) : Nat) : Int))) then
                  bif (decide ((11 : Nat) < (List.length v.2.1))) then
                    bif (decide ((11 : Int) < (((List.length v.2.1) : Nat) : Int))) then
                      bif (decide ((11 : Nat) < (List.length v.2.1))) then
                        let y9 : (List Int) := (List.set v.2.1 (11 : Nat) (IntKind.wrap .i64 ((List.getD v.2.1 (11 : Nat) (0 : Int)) + (1 : Int))))
                        rec ((), y9, v.2.2.1, v.2.2.2.1, (IntKind.wrap .i64 (v.2.2.2.2.1 + (1 : Int))), ())
                      else none
                    else none
                  else none
                else none
              else
                bif (decide ((List.getD v.2.2.1 (Int.toNat v.2.2.2.2.1) z_Out).1 = (3 : Int))) then
                  bif (decide ((12 : Int) < (((List.length v.2.1) : Nat) : Int))) then
                    bif (decide ((12 : Nat) < (List.length v.2.1))) then
                      bif (decide ((12 : Int) < (((List.length v.2.1) : Nat) : Int))) then
                        bif (decide ((12 : Nat) < (List.length v.2.1))) then
                          let y10 : (List Int) := (List.set v.2.1 (12 : Nat) (IntKind.wrap .i64 ((List.getD v.2.1 (12 : Nat) (0 : Int)) + (1 : Int))))
                          rec ((), y10, v.2.2.1, v.2.2.2.1, (IntKind.wrap .i64 (v.2.2.2.2.1 + (1 : Int))), ())
                        else none
                      else none
                    else none
                  else none
                else
                  bif (decide ((List.getD v.2.2.1 (Int.toNat v.2.2.2.2.1) z_Out).1 = (4 : Int))) then
                    bif (decide ((13 : Int) < (((List.length v.2.1) : Nat) : Int))) then
                      bif (decide ((13 : Nat) < (List.length v.2.1))) then
                        bif (decide ((13 : Int) < (((List.length v.2.1) : Nat) : Int))) then
                          bif (decide ((13 : Nat) < (List.length v.2.1))) then
                            let y11 : (List Int) := (List.set v.2.1 (13 : Nat) (IntKind.wrap .i64 ((List.getD v.2.1 (13 : Nat) (0 : Int)) + (1 : Int))))
                            rec ((), y11, v.2.2.1, v.2.2.2.1, (IntKind.wrap .i64 (v.2.2.2.2.1 + (1 : Int))), ())
                          else none
                        else none
                      else none
                    else none
                  else
                    rec ((), v.2.1, v.2.2.1, v.2.2.2.1, (IntKind.wrap .i64 (v.2.2.2.2.1 + (1 : Int))), ())
            else
              bif (decide ((List.getD v.2.2.1 (Int.toNat v.2.2.2.2.1) z_Out).1 = (3 : Int))) then
                bif (decide ((12 : Int) < (((List.length v.2.1) : Nat) : Int))) then
                  bif (decide ((12 : Nat) < (List.length v.2.1))) then
                    bif (decide ((12 : Int) < (((List.length v.2.1) : Nat) : Int))) then
                      bif (decide ((12 : Nat) < (List.length v.2.1))) then
                        let y12 : (List Int) := (List.set v.2.1 (12 : Nat) (IntKind.wrap .i64 ((List.getD v.2.1 (12 : Nat) (0 : Int)) + (1 : Int))))
                        rec ((), y12, v.2.2.1, v.2.2.2.1, (IntKind.wrap .i64 (v.2.2.2.2.1 + (1 : Int))), ())
                      else none
                    else none
                  else none
                else none
              else
                bif (decide ((List.getD v.2.2.1 (Int.toNat v.2.2.2.2.1) z_Out).1 = (4 : Int))) then
                  bif (decide ((13 : Int) < (((List.length v.2.1) : Nat) : Int))) then
                    bif (decide ((13 : Nat) < (List.length v.2.1))) then
                      bif (decide ((13 : Int) < (((List.length v.2.1) : Nat) : Int))) then
                        bif (decide ((13 : Nat) < (List.length v.2.1))) then
                          let y13 : (List Int) := (List.set v.2.1 (13 : Nat) (IntKind.wrap .i64 ((List.getD v.2.1 (13 : Nat) (0 : Int)) + (1 : Int))))
                          rec ((), y13, v.2.2.1, v.2.2.2.1, (IntKind.wrap .i64 (v.2.2.2.2.1 + (1 : Int))), ())
                        else none
                      else none
                    else none
                  else none
                else
                  rec ((), v.2.1, v.2.2.1, v.2.2.2.1, (IntKind.wrap .i64 (v.2.2.2.2.1 + (1 : Int))), ())
      else none
    else none
  else
    some ((), v.2.1, ())
def impl_Tally (k : Nat) (x0 : (List D_Out)) : Option (((List Int) × Unit) × Unit) :=
  bif (decide ((2000 : Int) < (((List.length x0) : Nat) : Int))) then
    some ((([] : List Int), ()), ())
  else
    (iter (impl_Tally_s5) k ((), ([(0 : Int), (0 : Int), (0 : Int), (0 : Int), (0 : Int), (0 : Int), (0 : Int), (0 : Int), (0 : Int), (0 : Int), (0 : Int), (0 : Int), (0 : Int), (0 : Int)] : List Int), x0, (((List.length x0) : Nat) : Int), (0 : Int), ())).bind fun o1 =>
      some (o1.2, ())
def laws_eqIntS_s4 (rec : (Unit × ((List Int) × ((List Int) × (Int × Unit)))) → Option ((Unit × (Bool × Unit)) ⊕ (Unit × Unit))) (v : (Unit × ((List Int) × ((List Int) × (Int × Unit))))) : Option ((Unit × (Bool × Unit)) ⊕ (Unit × Unit)) :=
  bif (decide (v.2.2.2.1 < (((List.length v.2.1) : Nat) : Int))) then
    bif ((decide ((0 : Int) ≤ v.2.2.2.1)) && (decide (v.2.2.2.1 < (((List.length v.2.1) : Nat) : Int)))) then
      bif (decide ((Int.toNat v.2.2.2.1) < (List.length v.2.1))) then
        bif ((decide ((0 : Int) ≤ v.2.2.2.1)) && (decide (v.2.2.2.1 < (((List.length v.2.2.1) : Nat) : Int)))) then
          bif (decide ((Int.toNat v.2.2.2.1) < (List.length v.2.2.1))) then
            bif (!(decide ((List.getD v.2.1 (Int.toNat v.2.2.2.1) (0 : Int)) = (List.getD v.2.2.1 (Int.toNat v.2.2.2.1) (0 : Int))))) then
              some (Sum.inl ((), false, ()))
            else
              rec ((), v.2.1, v.2.2.1, (IntKind.wrap .i64 (v.2.2.2.1 + (1 : Int))), ())
          else none
        else none
      else none
    else none
  else
    some (Sum.inr ((), ()))
def laws_eqIntS (k : Nat) (x0 : (List Int)) (x1 : (List Int)) : Option ((Bool × Unit) × Unit) :=
  bif (!(decide ((((List.length x0) : Nat) : Int) = (((List.length x1) : Nat) : Int)))) then
    some ((false, ()), ())
  else
    (iter (laws_eqIntS_s4) k ((), x0, x1, (0 : Int), ())).bind fun o1 =>
      Sum.elim (fun a2 =>
        some (a2.2, ()))
      (fun b3 =>
        some ((true, ()), ())) o1
def laws_eqOut (k : Nat) (x0 : D_Out) (x1 : D_Out) : Option ((Bool × Unit) × Unit) :=
  bif (!(decide (x0.1 = x1.1))) then
    some ((false, ()), ())
  else
    bif (!(decide (x0.2.1 = x1.2.1))) then
      some ((false, ()), ())
    else
      bif (!(decide (x0.2.2.1 = x1.2.2.1))) then
        some ((false, ()), ())
      else
        (laws_eqByteS k x0.2.2.2.1 x1.2.2.2.1).bind fun t1 =>
          bif (!t1.1.1) then
            some ((false, ()), ())
          else
            (laws_eqIntS k x0.2.2.2.2.1 x1.2.2.2.2.1).bind fun t2 =>
              bif (!t2.1.1) then
                some ((false, ()), ())
              else
                some ((true, ()), ())
def laws_eqOutS_s4 (k : Nat) (rec : (Unit × ((List D_Out) × ((List D_Out) × (Int × Unit)))) → Option ((Unit × (Bool × Unit)) ⊕ (Unit × Unit))) (v : (Unit × ((List D_Out) × ((List D_Out) × (Int × Unit))))) : Option ((Unit × (Bool × Unit)) ⊕ (Unit × Unit)) :=
  bif (decide (v.2.2.2.1 < (((List.length v.2.1) : Nat) : Int))) then
    bif ((decide ((0 : Int) ≤ v.2.2.2.1)) && (decide (v.2.2.2.1 < (((List.length v.2.1) : Nat) : Int)))) then
      bif (decide ((Int.toNat v.2.2.2.1) < (List.length v.2.1))) then
        bif ((decide ((0 : Int) ≤ v.2.2.2.1)) && (decide (v.2.2.2.1 < (((List.length v.2.2.1) : Nat) : Int)))) then
          bif (decide ((Int.toNat v.2.2.2.1) < (List.length v.2.2.1))) then
            (laws_eqOut k (List.getD v.2.1 (Int.toNat v.2.2.2.1) z_Out) (List.getD v.2.2.1 (Int.toNat v.2.2.2.1) z_Out)).bind fun t1 =>
              bif (!t1.1.1) then
                some (Sum.inl ((), false, ()))
              else
                rec ((), v.2.1, v.2.2.1, (IntKind.wrap .i64 (v.2.2.2.1 + (1 : Int))), ())
          else none
        else none
      else none
    else none
  else
    some (Sum.inr ((), ()))
def laws_eqOutS (k : Nat) (x0 : (List D_Out)) (x1 : (List D_Out)) : Option ((Bool × Unit) × Unit) :=
  bif (!(decide ((((List.length x0) : Nat) : Int) = (((List.length x1) : Nat) : Int)))) then
    some ((false, ()), ())
  else
    (iter (laws_eqOutS_s4 k) k ((), x0, x1, (0 : Int), ())).bind fun o1 =>
      Sum.elim (fun a2 =>
        some (a2.2, ()))
      (fun b3 =>
        some ((true, ()), ())) o1
def laws_markByteS_s2 (rec : (((List Int) × Unit) × (Unit × (Int × (Int × Unit)))) → Option ((((List Int) × Unit) × (Int × Unit)))) (v : (((List Int) × Unit) × (Unit × (Int × (Int × Unit))))) : Option ((((List Int) × Unit) × (Int × Unit))) :=
  bif (decide (v.2.2.2.1 < (((List.length v.1.1) : Nat) : Int))) then
    bif ((decide ((0 : Int) ≤ v.2.2.2.1)) && (decide (v.2.2.2.1 < (((List.length v.1.1) : Nat) : Int)))) then
      bif (decide ((Int.toNat v.2.2.2.1) < (List.length v.1.1))) then
        let y1 : (List Int) := (List.set v.1.1 (Int.toNat v.2.2.2.1) (IntKind.wrap .u8 v.2.2.1))
        rec ((y1, ()), (), (IntKind.wrap .i64 (v.2.2.1 + (1 : Int))), (IntKind.wrap .i64 (v.2.2.2.1 + (1 : Int))), ())
      else none
    else none
  else
    some (v.1, v.2.2.1, ())
def laws_markByteS (k : Nat) (x0 : (List Int)) (x1 : Int) : Option ((Int × Unit) × ((List Int) × Unit)) :=
  (iter (laws_markByteS_s2) k ((x0, ()), (), x1, (0 : Int), ())).bind fun o1 =>
    some (o1.2, o1.1)
def laws_markIntS_s2 (rec : (((List Int) × Unit) × (Unit × (Int × (Int × Unit)))) → Option ((((List Int) × Unit) × (Int × Unit)))) (v : (((List Int) × Unit) × (Unit × (Int × (Int × Unit))))) : Option ((((List Int) × Unit) × (Int × Unit))) :=
  bif (decide (v.2.2.2.1 < (((List.length v.1.1) : Nat) : Int))) then
    bif ((decide ((0 : Int) ≤ v.2.2.2.1)) && (decide (v.2.2.2.1 < (((List.length v.1.1) : Nat) : Int)))) then
      bif (decide ((Int.toNat v.2.2.2.1) < (List.length v.1.1))) then
        let y1 : (List Int) := (List.set v.1.1 (Int.toNat v.2.2.2.1) v.2.2.1)
        rec ((y1, ()), (), (IntKind.wrap .i64 (v.2.2.1 + (1 : Int))), (IntKind.wrap .i64 (v.2.2.2.1 + (1 : Int))), ())
      else none
    else none
  else
    some (v.1, v.2.2.1, ())
def laws_markIntS (k : Nat) (x0 : (List Int)) (x1 : Int) : Option ((Int × Unit) × ((List Int) × Unit)) :=
  (iter (laws_markIntS_s2) k ((x0, ()), (), x1, (0 : Int), ())).bind fun o1 =>
    some (o1.2, o1.1)
def laws_markOutS_s2 (k : Nat) (rec : (((List D_Out) × Unit) × (Unit × (Int × (Int × Unit)))) → Option ((((List D_Out) × Unit) × (Int × Unit)))) (v : (((List D_Out) × Unit) × (Unit × (Int × (Int × Unit))))) : Option ((((List D_Out) × Unit) × (Int × Unit))) :=
  bif (decide (v.2.2.2.1 < (((List.length v.1.1) : Nat) : Int))) then
    bif ((decide ((0 : Int) ≤ v.2.2.2.1)) && (decide (v.2.2.2.1 < (((List.length v.1.1) : Nat) : Int)))) then
      bif (decide ((Int.toNat v.2.2.2.1) < (List.length v.1.1))) then
        let y1 : (List D_Out) := (List.set v.1.1 (Int.toNat v.2.2.2.1) (v.2.2.1, (List.getD v.1.1 (Int.toNat v.2.2.2.1) z_Out).2))
        bif ((decide ((0 : Int) ≤ v.2.2.2.1)) && (decide (v.2.2.2.1 < (((List.length y1) : Nat) : Int)))) then
          bif (decide ((Int.toNat v.2.2.2.1) < (List.length y1))) then
            let y2 : (List D_Out) := (List.set y1 (Int.toNat v.2.2.2.1) ((List.getD y1 (Int.toNat v.2.2.2.1) z_Out).1, (IntKind.wrap .i64 (v.2.2.1 + (1 : Int))), (List.getD y1 (Int.toNat v.2.2.2.1) z_Out).2.2))
            bif ((decide ((0 : Int) ≤ v.2.2.2.1)) && (decide (v.2.2.2.1 < (((List.length y2) : Nat) : Int)))) then
              bif (decide ((Int.toNat v.2.2.2.1) < (List.length y2))) then
                let y3 : (List D_Out) := (List.set y2 (Int.toNat v.2.2.2.1) ((List.getD y2 (Int.toNat v.2.2.2.1) z_Out).1, (List.getD y2 (Int.toNat v.2.2.2.1) z_Out).2.1, (IntKind.wrap .i64 ((IntKind.wrap .i64 (v.2.2.1 + (1 : Int))) + (1 : Int))), (List.getD y2 (Int.toNat v.2.2.2.1) z_Out).2.2.2))
                bif ((decide ((0 : Int) ≤ v.2.2.2.1)) && (decide (v.2.2.2.1 < (((List.length y3) : Nat) : Int)))) then
                  bif (decide ((Int.toNat v.2.2.2.1) < (List.length y3))) then
                    (laws_markByteS k (List.getD y3 (Int.toNat v.2.2.2.1) z_Out).2.2.2.1 (IntKind.wrap .i64 ((IntKind.wrap .i64 ((IntKind.wrap .i64 (v.2.2.1 + (1 : Int))) + (1 : Int))) + (1 : Int)))).bind fun t4 =>
                      let y5 : (List D_Out) := (List.set y3 (Int.toNat v.2.2.2.1) ((List.getD y3 (Int.toNat v.2.2.2.1) z_Out).1, (List.getD y3 (Int.toNat v.2.2.2.1) z_Out).2.1, (List.getD y3 (Int.toNat v.2.2.2.1) z_Out).2.2.1, t4.2.1, (List.getD y3 (Int.toNat v.2.2.2.1) z_Out).2.2.2.2))
                      bif ((decide ((0 : Int) ≤ v.2.2.2.1)) && (decide (v.2.2.2.1 < (((List.length y5) : Nat) : Int)))) then
                        bif (decide ((Int.toNat v.2.2.2.1) < (List.length y5))) then
                          (laws_markIntS k (List.getD y5 (Int.toNat v.2.2.2.1) z_Out).2.2.2.2.1 t4.1.1).bind fun t6 =>
                            let y7 : (List D_Out) := (List.set y5 (Int.toNat v.2.2.2.1) ((List.getD y5 (Int.toNat v.2.2.2.1) z_Out).1, (List.getD y5 (Int.toNat v.2.2.2.1) z_Out).2.1, (List.getD y5 (Int.toNat v.2.2.2.1) z_Out).2.2.1, (List.getD y5 (Int.toNat v.2.2.2.1) z_Out).2.2.2.1, t6.2))
                            rec ((y7, ()), (), t6.1.1, (IntKind.wrap .i64 (v.2.2.2.1 + (1 : Int))), ())
                        else none
                      else none
                  else none
                else none
              else none
            else none
          else none
        else none
      else none
    else none
  else
    some (v.1, v.2.2.1, ())
def laws_markOutS (k : Nat) (x0 : (List D_Out)) (x1 : Int) : Option ((Int × Unit) × ((List D_Out) × Unit)) :=
  (iter (laws_markOutS_s2 k) k ((x0, ()), (), x1, (0 : Int), ())).bind fun o1 =>
    some (o1.2, o1.1)
def laws_heldIntS_s2 (rec : (Unit × ((List Int) × (Int × (Int × Unit)))) → Option ((Unit × (Int × Unit)) ⊕ (Unit × (Int × Unit)))) (v : (Unit × ((List Int) × (Int × (Int × Unit))))) : Option ((Unit × (Int × Unit)) ⊕ (Unit × (Int × Unit))) :=
  bif (decide (v.2.2.2.1 < (((List.length v.2.1) : Nat) : Int))) then
    bif ((decide ((0 : Int) ≤ v.2.2.2.1)) && (decide (v.2.2.2.1 < (((List.length v.2.1) : Nat) : Int)))) then
      bif (decide ((Int.toNat v.2.2.2.1) < (List.length v.2.1))) then
        bif (!(decide ((List.getD v.2.1 (Int.toNat v.2.2.2.1) (0 : Int)) = v.2.2.1))) then
          some (Sum.inl ((), (-1 : Int), ()))
        else
          rec ((), v.2.1, (IntKind.wrap .i64 (v.2.2.1 + (1 : Int))), (IntKind.wrap .i64 (v.2.2.2.1 + (1 : Int))), ())
      else none
    else none
  else
    some (Sum.inr ((), v.2.2.1, ()))
def laws_heldIntS (k : Nat) (x0 : (List Int)) (x1 : Int) : Option ((Int × Unit) × Unit) :=
  (iter (laws_heldIntS_s2) k ((), x0, x1, (0 : Int), ())).bind fun o1 =>
    Sum.elim (fun a2 =>
      some (a2.2, ()))
    (fun b3 =>
      some (b3.2, ())) o1
def laws_FnExactTally (k : Nat) (x0 : (List D_Out)) : Option ((Bool × Unit) × Unit) :=
  (laws_szOutS k x0 (1048576 : Int)).bind fun t1 =>
    bif (decide (t1.1.1 < (0 : Int))) then
      some ((true, ()), ())
    else
      (laws_toOutS k x0).bind fun t2 =>
        (spec_Tally k t2.1.1).bind fun t3 =>
          (laws_toOutS k x0).bind fun t4 =>
            (impl_Tally k t4.1.1).bind fun t5 =>
              (laws_eqIntS k t5.1.1 t3.1.1).bind fun t6 =>
                bif (!t6.1.1) then
                  some ((false, ()), ())
                else
                  (laws_toOutS k x0).bind fun t7 =>
                    (laws_eqOutS k t4.1.1 t7.1.1).bind fun t8 =>
                      bif (!t8.1.1) then
                        some ((false, ()), ())
                      else
                        (laws_markOutS k t4.1.1 (1 : Int)).bind fun t9 =>
                          bif (!(decide (t9.1.1 < (0 : Int)))) then
                            (laws_eqIntS k t5.1.1 t3.1.1).bind fun t10 =>
                              bif (!t10.1.1) then
                                some ((false, ()), ())
                              else
                                (laws_markIntS k t5.1.1 (1 : Int)).bind fun t11 =>
                                  (laws_heldIntS k t11.2.1 (1 : Int)).bind fun t12 =>
                                    bif (decide (t12.1.1 < (0 : Int))) then
                                      some ((false, ()), ())
                                    else
                                      bif (!(decide (t12.1.1 = t11.1.1))) then
                                        some ((false, ()), ())
                                      else
                                        (laws_toOutS k x0).bind fun t13 =>
                                          (impl_Tally k t13.1.1).bind fun t14 =>
                                            (laws_eqIntS k t14.1.1 t3.1.1).bind fun t15 =>
                                              bif (!t15.1.1) then
                                                some ((false, ()), ())
                                              else
                                                (laws_heldIntS k t11.2.1 (1 : Int)).bind fun t16 =>
                                                  bif (decide (t16.1.1 < (0 : Int))) then
                                                    some ((false, ()), ())
                                                  else
                                                    bif (!(decide (t16.1.1 = t11.1.1))) then
                                                      some ((false, ()), ())
                                                    else
                                                      some ((true, ()), ())
                          else
                            some ((false, ()), ())
def laws_szLeft (x0 : D_Left) (x1 : Int) : Option ((Int × Unit) × Unit) :=
  (laws_szIntS x0.2.1 x1).bind fun t1 =>
    bif (decide (t1.1.1 < (0 : Int))) then
      some (((-1 : Int), ()), ())
    else
      (laws_szIntS x0.2.2.1 t1.1.1).bind fun t2 =>
        bif (decide (t2.1.1 < (0 : Int))) then
          some (((-1 : Int), ()), ())
        else
          some (t2.1, ())
def laws_toLeft (k : Nat) (x0 : D_Left) : Option ((D_Left × Unit) × Unit) :=
  (laws_toIntS k x0.2.1).bind fun t1 =>
    (laws_toIntS k x0.2.2.1).bind fun t2 =>
      some (((x0.1, t1.1.1, t2.1.1, x0.2.2.2), ()), ())
def spec_l19In_s2 (rec : (Unit × ((List Int) × (Int × (Int × Unit)))) → Option ((Unit × (Bool × Unit)) ⊕ (Unit × Unit))) (v : (Unit × ((List Int) × (Int × (Int × Unit))))) : Option ((Unit × (Bool × Unit)) ⊕ (Unit × Unit)) :=
  bif (decide (v.2.2.2.1 < (((List.length v.2.1) : Nat) : Int))) then
    bif ((decide ((0 : Int) ≤ v.2.2.2.1)) && (decide (v.2.2.2.1 < (((List.length v.2.1) : Nat) : Int)))) then
      bif (decide ((Int.toNat v.2.2.2.1) < (List.length v.2.1))) then
        bif (decide ((List.getD v.2.1 (Int.toNat v.2.2.2.1) (0 : Int)) = v.2.2.1)) then
          some (Sum.inl ((), true, ()))
        else
          rec ((), v.2.1, v.2.2.1, (IntKind.wrap .i64 (v.2.2.2.1 + (1 : Int))), ())
      else none
    else none
  else
    some (Sum.inr ((), ()))
def spec_l19In (k : Nat) (x0 : (List Int)) (x1 : Int) : Option ((Bool × Unit) × Unit) :=
  (iter (spec_l19In_s2) k ((), x0, x1, (0 : Int), ())).bind fun o1 =>
    Sum.elim (fun a2 =>
      some (a2.2, ()))
    (fun b3 =>
      some ((false, ()), ())) o1
def spec_Fate_s7 (rec : (Unit × ((List D_Out) × (Int × (D_Left × (Int × (Int × Unit)))))) → Option ((Unit × (Int × Unit)) ⊕ (Unit × ((List D_Out) × (Int × (D_Left × (Int × Unit))))))) (v : (Unit × ((List D_Out) × (Int × (D_Left × (Int × (Int × Unit))))))) : Option ((Unit × (Int × Unit)) ⊕ (Unit × ((List D_Out) × (Int × (D_Left × (Int × Unit)))))) :=
  bif (decide (v.2.2.2.2.2.1 < (((List.length v.2.1) : Nat) : Int))) then
    bif ((decide ((0 : Int) ≤ v.2.2.2.2.2.1)) && (decide (v.2.2.2.2.2.1 < (((List.length v.2.1) : Nat) : Int)))) then
      bif (decide ((Int.toNat v.2.2.2.2.2.1) < (List.length v.2.1))) then
        bif (decide ((List.getD v.2.1 (Int.toNat v.2.2.2.2.2.1) z_Out).1 = v.2.2.2.2.1)) then
          bif ((decide ((0 : Int) ≤ v.2.2.2.2.2.1)) && (decide (v.2.2.2.2.2.1 < (((List.length v.2.1) : Nat) : Int)))) then
            bif (decide ((Int.toNat v.2.2.2.2.2.1) < (List.length v.2.1))) then
              bif (decide ((List.getD v.2.1 (Int.toNat v.2.2.2.2.2.1) z_Out).2.1 = v.2.2.1)) then
                some (Sum.inl ((), v.2.2.2.2.1, ()))
              else
                rec ((), v.2.1, v.2.2.1, v.2.2.2.1, v.2.2.2.2.1, (IntKind.wrap .i64 (v.2.2.2.2.2.1 + (1 : Int))), ())
            else none
          else none
        else
          rec ((), v.2.1, v.2.2.1, v.2.2.2.1, v.2.2.2.2.1, (IntKind.wrap .i64 (v.2.2.2.2.2.1 + (1 : Int))), ())
      else none
    else none
  else
    some (Sum.inr ((), v.2.1, v.2.2.1, v.2.2.2.1, v.2.2.2.2.1, ()))
def spec_Fate_s4 (k : Nat) (rec : (Unit × ((List D_Out) × (Int × (D_Left × (Int × Unit))))) → Option ((Unit × (Int × Unit)) ⊕ (Unit × (Int × (D_Left × Unit))))) (v : (Unit × ((List D_Out) × (Int × (D_Left × (Int × Unit)))))) : Option ((Unit × (Int × Unit)) ⊕ (Unit × (Int × (D_Left × Unit)))) :=
  bif (decide (v.2.2.2.2.1 ≤ (2 : Int))) then
    (iter (spec_Fate_s7) k ((), v.2.1, v.2.2.1, v.2.2.2.1, v.2.2.2.2.1, (0 : Int), ())).bind fun o2 =>
      Sum.elim (fun a3 =>
        some (Sum.inl ((), a3.2)))
      (fun b4 =>
        rec ((), b4.2.1, b4.2.2.1, b4.2.2.2.1, (IntKind.wrap .i64 (b4.2.2.2.2.1 + (1 : Int))), ())) o2
  else
    some (Sum.inr ((), v.2.2.1, v.2.2.2.1, ()))
def spec_Fate (k : Nat) (x0 : (List D_Out)) (x1 : D_Left) (x2 : Int) : Option ((Int × Unit) × Unit) :=
  (spec_l24Few x0).bind fun t1 =>
    bif (!(!t1.1.1)) then
      bif (!(decide ((2000 : Int) < (((List.length x1.2.1) : Nat) : Int)))) then
        bif (decide ((2000 : Int) < (((List.length x1.2.2.1) : Nat) : Int))) then
          some (((-1 : Int), ()), ())
        else
          (iter (spec_Fate_s4 k) k ((), x0, x2, x1, (1 : Int), ())).bind fun o2 =>
            Sum.elim (fun a3 =>
              some (a3.2, ()))
            (fun b4 =>
              (spec_l19In k b4.2.2.1.2.1 b4.2.1).bind fun t5 =>
                bif t5.1.1 then
                  some (((3 : Int), ()), ())
                else
                  (spec_l19In k b4.2.2.1.2.2.1 b4.2.1).bind fun t6 =>
                    bif t6.1.1 then
                      some (((4 : Int), ()), ())
                    else
                      some (((0 : Int), ()), ())) o2
      else
        some (((-1 : Int), ()), ())
    else
      some (((-1 : Int), ()), ())
def impl_areShort (x0 : (List D_Out)) (x1 : D_Left) : Option ((Bool × Unit) × Unit) :=
  bif (decide ((((List.length x0) : Nat) : Int) ≤ (2000 : Int))) then
    bif (decide ((((List.length x1.2.1) : Nat) : Int) ≤ (2000 : Int))) then
      some (((decide ((((List.length x1.2.2.1) : Nat) : Int) ≤ (2000 : Int))), ()), ())
    else
      some ((false, ()), ())
  else
    some ((false, ()), ())
def impl_isOver_1 (x0 : D_Out) (x1 : Int) (x2 : Int) : Option ((Bool × Unit) × Unit) :=
  bif (decide (x0.1 = x1)) then
    some (((decide (x0.2.1 = x2)), ()), ())
  else
    some ((false, ()), ())
def slices_IndexFunc_impl_Out_impl_Out_s2 (rec : (Unit × ((List D_Out) × ((Int × (Int × Unit)) × (Int × (Int × Unit))))) → Option ((Unit × (Int × Unit)) ⊕ (Unit × Unit))) (v : (Unit × ((List D_Out) × ((Int × (Int × Unit)) × (Int × (Int × Unit)))))) : Option ((Unit × (Int × Unit)) ⊕ (Unit × Unit)) :=
  bif (decide (v.2.2.2.2.1 < v.2.2.2.1)) then
    bif ((decide ((0 : Int) ≤ v.2.2.2.2.1)) && (decide (v.2.2.2.2.1 < (((List.length v.2.1) : Nat) : Int)))) then
      bif (decide ((Int.toNat v.2.2.2.2.1) < (List.length v.2.1))) then
        (impl_isOver_1 (List.getD v.2.1 (Int.toNat v.2.2.2.2.1) z_Out) v.2.2.1.1 v.2.2.1.2.1).bind fun t1 =>
          bif t1.1.1 then
            some (Sum.inl ((), v.2.2.2.2))
          else
            rec ((), v.2.1, (v.2.2.1.1, v.2.2.1.2.1, ()), v.2.2.2.1, (IntKind.wrap .i64 (v.2.2.2.2.1 + (1 : Int))), ())
      else none
    else none
  else
    some (Sum.inr ((), ()))
def slices_IndexFunc_impl_Out_impl_Out (k : Nat) (x0 : (List D_Out)) (x1 : (Int × (Int × Unit))) : Option ((Int × Unit) × Unit) :=
  (iter (slices_IndexFunc_impl_Out_impl_Out_s2) k ((), x0, (x1.1, x1.2.1, ()), (((List.length x0) : Nat) : Int), (0 : Int), ())).bind fun o1 =>
    Sum.elim (fun a2 =>
      some (a2.2, ()))
    (fun b3 =>
      some (((-1 : Int), ()), ())) o1
def slices_ContainsFunc_impl_Out_impl_Out (k : Nat) (x0 : (List D_Out)) (x1 : (Int × (Int × Unit))) : Option ((Bool × Unit) × Unit) :=
  (slices_IndexFunc_impl_Out_impl_Out k x0 (x1.1, x1.2.1, ())).bind fun t1 =>
    some (((decide ((0 : Int) ≤ t1.1.1)), ()), ())
def impl_isOver (k : Nat) (x0 : (List D_Out)) (x1 : Int) (x2 : Int) : Option ((Bool × Unit) × Unit) :=
  (slices_ContainsFunc_impl_Out_impl_Out k x0 (x1, x2, ())).bind fun t1 =>
    some (t1.1, ())
def slices_Index_int_s2 (rec : (Unit × ((List Int) × D_Vec)) → Option ((Unit × (Int × Unit)) ⊕ (Unit × Unit))) (v : (Unit × ((List Int) × D_Vec))) : Option ((Unit × (Int × Unit)) ⊕ (Unit × Unit)) :=
  bif (decide (v.2.2.2.2.1 < v.2.2.2.1)) then
    bif ((decide ((0 : Int) ≤ v.2.2.2.2.1)) && (decide (v.2.2.2.2.1 < (((List.length v.2.1) : Nat) : Int)))) then
      bif (decide ((Int.toNat v.2.2.2.2.1) < (List.length v.2.1))) then
        bif (decide (v.2.2.1 = (List.getD v.2.1 (Int.toNat v.2.2.2.2.1) (0 : Int)))) then
          some (Sum.inl ((), v.2.2.2.2))
        else
          rec ((), v.2.1, v.2.2.1, v.2.2.2.1, (IntKind.wrap .i64 (v.2.2.2.2.1 + (1 : Int))), ())
      else none
    else none
  else
    some (Sum.inr ((), ()))
def slices_Index_int (k : Nat) (x0 : (List Int)) (x1 : Int) : Option ((Int × Unit) × Unit) :=
  (iter (slices_Index_int_s2) k ((), x0, x1, (((List.length x0) : Nat) : Int), (0 : Int), ())).bind fun o1 =>
    Sum.elim (fun a2 =>
      some (a2.2, ()))
    (fun b3 =>
      some (((-1 : Int), ()), ())) o1
def slices_Contains_int (k : Nat) (x0 : (List Int)) (x1 : Int) : Option ((Bool × Unit) × Unit) :=
  (slices_Index_int k x0 x1).bind fun t1 =>
    some (((decide ((0 : Int) ≤ t1.1.1)), ()), ())
def impl_Fate (k : Nat) (x0 : (List D_Out)) (x1 : D_Left) (x2 : Int) : Option ((Int × Unit) × Unit) :=
  (impl_areShort x0 x1).bind fun t1 =>
    bif (!t1.1.1) then
      some (((-1 : Int), ()), ())
    else
      (impl_isOver k x0 (1 : Int) x2).bind fun t2 =>
        bif t2.1.1 then
          some (((1 : Int), ()), ())
        else
          (impl_isOver k x0 (2 : Int) x2).bind fun t3 =>
            bif t3.1.1 then
              some (((2 : Int), ()), ())
            else
              (slices_Contains_int k x1.2.1 x2).bind fun t4 =>
                bif t4.1.1 then
                  some (((3 : Int), ()), ())
                else
                  (slices_Contains_int k x1.2.2.1 x2).bind fun t5 =>
                    bif t5.1.1 then
                      some (((4 : Int), ()), ())
                    else
                      some (((0 : Int), ()), ())
def laws_eqLeft (k : Nat) (x0 : D_Left) (x1 : D_Left) : Option ((Bool × Unit) × Unit) :=
  bif (!(decide (x0.1 = x1.1))) then
    some ((false, ()), ())
  else
    (laws_eqIntS k x0.2.1 x1.2.1).bind fun t1 =>
      bif (!t1.1.1) then
        some ((false, ()), ())
      else
        (laws_eqIntS k x0.2.2.1 x1.2.2.1).bind fun t2 =>
          bif (!t2.1.1) then
            some ((false, ()), ())
          else
            bif (!(decide (x0.2.2.2.1 = x1.2.2.2.1))) then
              some ((false, ()), ())
            else
              bif (!(decide (x0.2.2.2.2.1 = x1.2.2.2.2.1))) then
                some ((false, ()), ())
              else
                some ((true, ()), ())
def laws_FnExactFate (k : Nat) (x0 : (List D_Out)) (x1 : D_Left) (x2 : Int) : Option ((Bool × Unit) × Unit) :=
  (laws_szOutS k x0 (1048576 : Int)).bind fun t1 =>
    bif (decide (t1.1.1 < (0 : Int))) then
      some ((true, ()), ())
    else
      (laws_szLeft x1 t1.1.1).bind fun t2 =>
        bif (decide (t2.1.1 < (0 : Int))) then
          some ((true, ()), ())
        else
          (laws_toOutS k x0).bind fun t3 =>
            (laws_toLeft k x1).bind fun t4 =>
              (spec_Fate k t3.1.1 t4.1.1 x2).bind fun t5 =>
                (laws_toOutS k x0).bind fun t6 =>
                  (laws_toLeft k x1).bind fun t7 =>
                    (impl_Fate k t6.1.1 t7.1.1 x2).bind fun t8 =>
                      bif (!(decide (t8.1.1 = t5.1.1))) then
                        some ((false, ()), ())
                      else
                        (laws_toOutS k x0).bind fun t9 =>
                          (laws_eqOutS k t6.1.1 t9.1.1).bind fun t10 =>
                            bif (!t10.1.1) then
                              some ((false, ()), ())
                            else
                              (laws_toLeft k x1).bind fun t11 =>
                                (laws_eqLeft k t7.1.1 t11.1.1).bind fun t12 =>
                                  bif (!t12.1.1) then
                                    some ((false, ()), ())
                                  else
                                    some ((true, ()), ())
end Go.Tw
